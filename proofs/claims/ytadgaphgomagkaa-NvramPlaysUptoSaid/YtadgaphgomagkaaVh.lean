/- The log's device: bytes written. -/
import Derived.Test.YtadgaphgomagkaaVq
namespace Go.Proofs.Ytadgaphgomagkaa
open Go.RowKit
set_option maxHeartbeats 8000000
set_option maxRecDepth 100000

theorem nvWrite_ok (w : World) (B D P G : Nat) (kept : List UInt8) (L : List (Nat × UInt8)) (us : List Un) (uA : Option Addr) (uc : Nat) (h : NvAt w B D P G (app kept L) us uA uc) (l : Link kept L us) (hbl : kept.length ≤ 67108864) (armed writes : Nat) (picks devs : Value) (hp : PwAt w P false armed picks writes devs) (ha : armed ≠ 1) (ha2 : armed ≤ 9223372036854775807) (hw : writes ≤ 4611686018427387904) (hBP : B ≤ P) (_hB : B ≤ w.heap.size)
    (a : Nat) (A : Option Addr) (c : Nat) (ps : List Sb) (hr : Rd w A (ps.map Sb.val)) (hpl : ps.length ≤ 1000) (hok : ∀ s ∈ ps, s.ok w) (hfit : a + (flat ps).length ≤ kept.length) (hL : L.length + (flat ps).length ≤ 2000000) :
    Calls Try.prog 19 #[.pointer (some ⟨D, 0, none⟩), .int .i64 (a : Nat), .slice A ps.length c] w fun e w' => e = .returned (.int .i64 0) ∧ ∃ us' uA' uc', NvAt w' B D P G (app kept (L ++ puts a (flat ps))) us' uA' uc' ∧ Link kept (L ++ puts a (flat ps)) us' ∧ PwAt w' P false (armed - 1) picks (writes + 1) devs ∧ ChgN B G w w' := by
  have hC := Blk.new w 25 #[.pointer (some ⟨D, 0, none⟩)]
  have hT := Blk.new (w.alloc (.cells #[.pointer (some ⟨D, 0, none⟩)] 25)) 3 #[.int .i64 (a : Nat)]
  have hC2 := hC.alloc (.cells #[.int .i64 (a : Nat)] 3)
  have hb2 : Below w.heap.size w ((w.alloc (.cells #[.pointer (some ⟨D, 0, none⟩)] 25)).alloc (.cells #[.int .i64 (a : Nat)] 3)) := ((Below.refl _ _).alloc (Nat.le_refl _) _).alloc (by simp) _
  have hcc := concat_any A c ps _ (hr.below hb2) hpl (fun s hs => Sb.ok_below (hok s hs) hb2) (by omega)
  simp only [World.size_alloc] at hT
  go_enter Try.func19, Try.ntmps19
  go_wp2_with fail
  refine hcc.mono ?_
  rintro e w3 ⟨A3, c3, rfl, ho3, hb3⟩
  have hGlt := h.bys.lt
  have hb23 := hb2.trans (hb3.mono hb2.size)
  have h3 := h.below hb23
  have hp3 := hp.below hb23
  have hC3 := hC2.below' hb3
  have hT3 := hT.below' hb3
  have hz3 := hb23.size
  have hA3 : ∀ ad, A3 = some ad → ad.block ≠ G := fun ad e e' => by
    have := ((own_cap ho3).2.2 ad e).1
    simp at this
    omega
  have hr3 := Rd.of_own ho3
  have hr3h := own_has ho3
  clear hcc hb2 hC hT hC2 hr hok hb3 ho3
  have hof := off_any w3 P false armed writes picks devs hp3
  have hwi := within_any w3 B D P G _ us uA uc h3 (by rw [app_length]; exact hbl) (a : Nat) ((flat ps).length : Nat) (by omega)
  have hfb : fitsB (app kept L).length (a : Nat) ((flat ps).length : Nat) = true := by rw [app_length]; unfold fitsB; simp; omega
  rw [hfb] at hwi
  have hwr := write_ok w3 P armed writes picks devs hp3 ha ha2 hw
  have c0 := h3.c0
  have C0 : w3.cell? ⟨w.heap.size, 0, none⟩ = some (.pointer (some ⟨D, 0, none⟩)) := hC3.cell 0
  have T0 : w3.cell? ⟨w.heap.size + 1, 0, none⟩ = some (.int .i64 (a : Nat)) := hT3.cell 0
  generalize hfp : flat ps = bl at *
  have HFP := Lib.hid hfp
  clear hfp
  go_wp2_with (first
    | (go_at_call 29; refine hof.mono ?_; rintro e w4 ⟨rfl, rfl⟩)
    | (go_at_call 52; refine hwi.mono ?_; rintro e w4 ⟨rfl, rfl⟩)
    | (go_at_call 53; refine hwr.mono ?_; rintro e w4 ⟨rfl, hp4, hc4⟩))
  have h4 := h3.keepP hp3.blk.has hc4
  have hC4 := hC3.keep hc4 (hC3.has.ne hp3.blk.has (by decide))
  have hT4 := hT3.keep hc4 (hT3.has.ne hp3.blk.has (by decide))
  have hr4 : Rd w4 A3 (byts bl) := hr3.keepC hc4 fun ad e => (hr3h ad e).ne hp3.blk.has (by decide)
  have hr4h : ∀ ad, A3 = some ad → Has w4 ad.block 5 := fun ad e => (hr3h ad e).keep hc4 ((hr3h ad e).ne hp3.blk.has (by decide))
  have hch4 : ChgN B G w w4 := (ChgN.of_below hb23).trans (ChgN.of hc4 fun k _ hk => by rw [show k = P from hk]; exact ⟨hBP, .inr ⟨_, .inl rfl, hp3.blk.has⟩⟩)
  have hz4 := hc4.size
  clear hof hwi hwr hfb h3 hp3 hC3 hT3 hr3 hr3h hc4 c0 C0 T0 hb23 hp
  generalize hCn : w.heap.size = C at *
  go_loopg [35] bl.length (fun m s35 wr => ∃ (k : Nat) (us : List Un) (uA : Option Addr) (uc : Nat), m = bl.length - k ∧ k ≤ bl.length ∧ s35 = .int .i64 (k : Nat) ∧ NvAt wr B D P G (app kept (L ++ puts a (bl.take k))) us uA uc ∧ Link kept (L ++ puts a (bl.take k)) us ∧
    Blk wr C 25 #[.pointer (some ⟨D, 0, none⟩)] ∧ Blk wr (C + 1) 3 #[.int .i64 (a : Nat)] ∧ Rd wr A3 (byts bl) ∧ (∀ ad, A3 = some ad → Has wr ad.block 5) ∧ PwAt wr P false (armed - 1) picks (writes + 1) devs ∧ ChgN B G w wr)
  case atStart => exact ⟨0, us, uA, uc, rfl, by omega, rfl, by simpa [puts] using h4, by simpa [puts] using l, hC4, hT4, hr4, hr4h, hp4, hch4⟩
  case round =>
    clear h4 hC4 hT4 hr4 hr4h hp4 hch4 hz3 hz4 l h
    obtain ⟨k, us, uA, uc, rfl, hk, rfl, h, l, hC, hT, hr, hr8, hp, hch⟩ := hrel
    by_cases hlt : k < bl.length
    · have r1 : (k : Int) < (bl.length : Int) := by omega
      obtain ⟨ad, rfl, _, hcell⟩ := hr.at_ (k := k) (by simpa [byts] using hlt)
      simp only [byts, List.getElem_map] at hcell
      have hsn := puts_snoc a bl k hlt
      have hpl2 : (puts a (bl.take k)).length = k := by rw [puts_length, List.length_take]; omega
      have hLk : us.length = L.length + k := by rw [l.len, List.length_append, hpl2]
      have hsL : L ++ puts a (bl.take (k + 1)) = (L ++ puts a (bl.take k)) ++ [(a + k, bl[k])] := by rw [hsn, List.append_assoc]
      have hul : us.length ≤ 2000000 := by omega
      clear hsn hpl2 hLk
      generalize L ++ puts a (bl.take k) = Lk at *
      generalize bl[k] = b at *
      have HS := Lib.hid hsL
      clear hsL
      unfold byt at hcell
      go_upto_region 11 with fail
      have hB5 : Below wr.heap.size wr (wr.alloc (.cells #[.int .i64 (k : Nat)] 3)) := (Below.refl _ _).alloc (Nat.le_refl _) _
      have h5 := h.below hB5
      have hC5 := hC.below' hB5
      have hT5 := hT.below' hB5
      have hr5 := hr.below hB5
      have hp5 := hp.below hB5
      have hch5 := hch.below hB5
      have hI5 := Blk.new wr 3 #[.int .i64 (k : Nat)]
      have hr85 : ∀ ad', some ad = some ad' → Has (wr.alloc (.cells #[.int .i64 (k : Nat)] 3)) ad'.block 5 := fun ad' e => (hr8 ad' e).keep (S := fun _ => False) (.of_below hB5) (fun h => h)
      have hwr := h.bys.lt
      have hz0 := hch.size
      have hplt : a + k < (app kept Lk).length := by rw [app_length]; omega
      obtain ⟨was, hwas⟩ : ∃ was, (app kept Lk)[a + k]? = some was := ⟨_, List.getElem?_eq_getElem hplt⟩
      have hwe : IntKind.i64.wrap ((a : Int) + (k : Int)) = ((a + k : Nat) : Int) := by rw [IntWalk.i64_in _ (by omega)]; omega
      have hqk : a + k < kept.length := by omega
      generalize hI : wr.heap.size = I at *
      generalize wr.alloc (.cells #[.int .i64 (k : Nat)] 3) = w5 at *
      clear h hC hT hr hp hch hr8 hcell hB5
      generalize hpq : a + k = q at *
      have facts : ∀ W', Below w5.heap.size w5 W' → W'.cell? ⟨C, 0, none⟩ = some (.pointer (some ⟨D, 0, none⟩)) ∧ W'.cell? ⟨C + 1, 0, none⟩ = some (.int .i64 (a : Nat)) ∧ W'.cell? ⟨I, 0, none⟩ = some (.int .i64 (k : Nat)) ∧
          W'.cell? ⟨D, 1, none⟩ = some (.slice (some ⟨G, 0, none⟩) (app kept Lk).length (app kept Lk).length) ∧ W'.cell? ⟨G, q, none⟩ = some (.int .u8 (was.toNat : Nat)) := fun W' hW => by
        refine ⟨(hC5.below' hW).cell 0, (hT5.below' hW).cell 0, (hI5.below' hW).cell 0, (h5.below hW).c1, ?_⟩
        rw [(h5.below hW).cb q hplt]
        rw [List.getElem?_eq_getElem hplt] at hwas
        injection hwas with hwas
        rw [hwas]; rfl
      have hlq : (app kept Lk).length = kept.length := app_length _ _
      rw [hlq] at facts
      have r2 : (q : Int) < (kept.length : Int) := by omega
      go_cut [10] (fun s10 wx => ∃ W, s10 = .pointer (some ⟨W, 0, none⟩) ∧ w5.heap.size ≤ W ∧ Blk wx W 5 #[byt was] ∧ Below w5.heap.size w5 wx)
      case first =>
        obtain ⟨x1, x2, x3, x4, x5⟩ := facts w5.drew (Below.refl _ _).drew
        obtain ⟨y1, y2, y3, y4, y5⟩ := facts (w5.alloc (.cells #[.int .u8 0] 5)).drew ((Below.refl _ _).alloc (Nat.le_refl _) _).drew
        clear facts h5 hC5 hT5 hI5 hr5 hp5 hch5 hr85 l HS hwas
        go_region_law (fail) /-DEV1-/
        all_goals (go_wp2_with fail; go_meet; exact ⟨w5.heap.size, rfl, Nat.le_refl _, Blk.new w5 5 #[byt was], ((Below.refl _ _).alloc (Nat.le_refl _) _).drew⟩)
      case rest =>
        obtain ⟨W, rfl, hW, hWb, hb6⟩ := hcut
        obtain ⟨w6, hw6⟩ : ∃ x, x = wc := ⟨wc, rfl⟩
        subst hw6
        have hmf : ∀ (fn : Fn) (first cap : Array Value) (w : World), (Instr.makeFunc fn first cap).run Try.prog w = .ok (.func fn first cap) w := fun _ _ _ _ => rfl
        have h6 := h5.below hb6
        have hC6 := hC5.below' hb6
        have hT6 := hT5.below' hb6
        have hI6 := hI5.below' hb6
        have hr6 := hr5.below hb6
        have hp6 := hp5.below hb6
        have hch6 := hch5.below hb6
        have hr86 : ∀ ad', some ad = some ad' → Has w6 ad'.block 5 := fun ad' e => (hr85 ad' e).keep (S := fun _ => False) (.of_below hb6) (fun h => h)
        have hGW : W ≠ G := by have := h5.bys.lt; omega
        have hu : (⟨W, C, C + 1, I, a, k, was⟩ : Un).ok w6 D G := ⟨hWb, hC6, hT6, hI6, hGW⟩
        have hz6 := hb6.size
        have hBz : B ≤ w6.heap.size := by have := h6.low.2; have := h6.bys.lt; omega
        clear facts h5 hC5 hT5 hI5 hr5 hp5 hch5 hr85 hb6 hW
        have facts : ∀ W', Chg (fun j => ∃ ad, uA = some ad ∧ j = ad.block) (w6.alloc (.cells #[(⟨W, C, C + 1, I, a, k, was⟩ : Un).val] 1)) W' → W'.cell? ⟨C, 0, none⟩ = some (.pointer (some ⟨D, 0, none⟩)) ∧ W'.cell? ⟨D, 2, none⟩ = some (.slice uA us.length uc) ∧ W'.frozen? ⟨D, 2, none⟩ = false := fun W' hW => by
          have hF : ∀ j, (∃ ad, uA = some ad ∧ j = ad.block) → Has w6 j 1 := by
            rintro j ⟨ad, e, rfl⟩
            exact own_has h6.row ad e
          have hD' := (h6.dev.alloc (.cells #[(⟨W, C, C + 1, I, a, k, was⟩ : Un).val] 1)).keep hW fun hh => ((hF _ hh).ne h6.dev.has (by decide)) rfl
          exact ⟨((hC6.alloc (.cells #[(⟨W, C, C + 1, I, a, k, was⟩ : Un).val] 1)).keep hW fun hh => ((hF _ hh).ne hC6.has (by decide)) rfl).cell 0, hD'.cell 2, hD'.frozen 2⟩
        have hap6 : Ap w6 B 1 1 (.slice uA us.length uc) us.length (us.map Un.val) := .inl h6.row
        go_upto_region 12 with fail
        go_cut [] (fun wx => ∃ uA' uc', NvAt wx B D P G (app kept Lk) (us ++ [⟨W, C, C + 1, I, a, k, was⟩]) uA' uc' ∧ Chg (fun j => j = D ∨ ∃ ad, uA = some ad ∧ j = ad.block) w6 wx)
        case first =>
          have C0 : w6.drew.cell? ⟨C, 0, none⟩ = some (.pointer (some ⟨D, 0, none⟩)) := hC6.cell 0
          have D2 : w6.drew.cell? ⟨D, 2, none⟩ = some (.slice uA us.length uc) := h6.c2
          obtain ⟨z1, z2, z3⟩ := facts (w6.alloc (.cells #[(⟨W, C, C + 1, I, a, k, was⟩ : Un).val] 1)).drew (Chg.drew (Chg.refl _ _))
          have hfin : ∀ A7 c7 w7, w7.ownsRow B 1 1 (.slice A7 (us.length + 1) c7) (us.length + 1) (us.map Un.val ++ [(⟨W, C, C + 1, I, a, k, was⟩ : Un).val]) → Chg (fun j => ∃ ad, uA = some ad ∧ j = ad.block) (w6.alloc (.cells #[(⟨W, C, C + 1, I, a, k, was⟩ : Un).val] 1)) w7 →
              NvAt (w7.setCell ⟨D, 2, none⟩ (.slice A7 (us.length + 1) c7)) B D P G (app kept Lk) (us ++ [⟨W, C, C + 1, I, a, k, was⟩]) A7 c7 ∧ Chg (fun j => j = D ∨ ∃ ad, uA = some ad ∧ j = ad.block) w6 (w7.setCell ⟨D, 2, none⟩ (.slice A7 (us.length + 1) c7)) := by
            intro A7 c7 w7 ho7 hc7
            have hch0 : Chg (fun j => ∃ ad, uA = some ad ∧ j = ad.block) w6 (w6.alloc (.cells #[(⟨W, C, C + 1, I, a, k, was⟩ : Un).val] 1)) := Chg.alloc (Chg.refl _ _) _
            refine ⟨h6.push hu ho7 (hch0.trans hc7), ?_⟩
            exact Chg.set (S := fun j => j = D ∨ ∃ ad, uA = some ad ∧ j = ad.block) ((hch0.trans hc7).mono fun j _ hj => .inr hj) (.inl rfl) _ _
          unfold Un.val at z1 z2 z3 facts hfin
          clear hC6 hT6 hI6 hr6 hp6 hch6 hr86 l HS hwas
          go_region_law (refine step_apz _ rfl _ _ rfl slF B uA us.length uc (us.map Un.val) rfl (hap6.alloc _) (some ⟨w6.heap.size, 0, none⟩) (.func (.func 54) #[] #[.pointer (some ⟨W, 0, none⟩), .pointer (some ⟨C, 0, none⟩), .pointer (some ⟨C + 1, 0, none⟩), .pointer (some ⟨I, 0, none⟩)]) rfl (Rd.one w6 _ _) rfl (by unfold maxLen; omega) (by omega) (by simp; omega) ?_; intro A7 c7 w7 ho7 hc7 hA7; obtain ⟨v1, v2, v3⟩ := facts w7 ⟨hc7.os, hc7.tape, hc7.output, hc7.size, hc7.block⟩) /-DEV2-/
          all_goals (go_wp2_with fail; go_meet; (first | exact ⟨A7, c7, (hfin A7 c7 w7 ho7 ⟨hc7.os, hc7.tape, hc7.output, hc7.size, hc7.block⟩).1, (hfin A7 c7 w7 ho7 ⟨hc7.os, hc7.tape, hc7.output, hc7.size, hc7.block⟩).2⟩ | exact ⟨A7, c7, (hfin A7 c7 w7 ho7 ⟨hc7.os, hc7.tape, hc7.output, hc7.size, hc7.block⟩).1.drew, (hfin A7 c7 w7 ho7 ⟨hc7.os, hc7.tape, hc7.output, hc7.size, hc7.block⟩).2.drew⟩))
        case rest =>
          obtain ⟨uA', uc', h7, hc7⟩ := hcut
          have hT7 : ∀ j, (j = D ∨ ∃ ad, uA = some ad ∧ j = ad.block) → Has w6 j 94 ∨ Has w6 j 1 := by
            rintro j (rfl | ⟨ad, e, rfl⟩)
            · exact .inl h6.dev.has
            · exact .inr (own_has h6.row ad e)
          have no : ∀ j t, Has w6 j t → t ≠ 94 → t ≠ 1 → ¬ (j = D ∨ ∃ ad, uA = some ad ∧ j = ad.block) := by
            intro j t ht n1 n2 hj
            rcases hT7 j hj with e | e
            · exact (ht.ne e n1) rfl
            · exact (ht.ne e n2) rfl
          have hC7 := hC6.keep hc7 (no _ _ hC6.has (by decide) (by decide))
          have hT77 := hT6.keep hc7 (no _ _ hT6.has (by decide) (by decide))
          have hI7 := hI6.keep hc7 (no _ _ hI6.has (by decide) (by decide))
          have hr7 := hr6.keepC hc7 fun ad' e => no _ _ (hr86 ad' e) (by decide) (by decide)
          have hr87 := fun ad' e => (hr86 ad' e).keep hc7 (no _ _ (hr86 ad' e) (by decide) (by decide))
          have hp7 : PwAt _ P false (armed - 1) picks (writes + 1) devs := ⟨hp6.blk.keep hc7 (no _ _ hp6.blk.has (by decide) (by decide))⟩
          have hch7 : ChgN B G w _ := hch6.trans (ChgN.of hc7 fun j _ hj => by
            rcases hj with rfl | ⟨ad, e, rfl⟩
            · exact ⟨h6.low.1, .inr ⟨_, .inr (.inl rfl), h6.dev.has⟩⟩
            · exact ⟨((own_cap h6.row).2.2 ad e).1, .inr ⟨_, .inr (.inr rfl), own_has h6.row ad e⟩⟩)
          have hl7 := l.pushed ⟨W, C, C + 1, I, a, k, was⟩ b (by rw [hpq]; exact hqk) (by rw [hpq]; exact hwas)
          simp only [hpq] at hl7
          rw [← HS.out] at hl7
          clear h6 hC6 hT6 hI6 hr6 hr86 hp6 hch6 hc7 no hT7 hap6 facts hu hWb hz6 l
          have C0 := hC7.drew.cell 0
          have T0 := hT77.drew.cell 0
          have I0 := hI7.drew.cell 0
          have D1 := h7.drew.c1
          have Gq := h7.drew.cb q hplt
          have Gf := h7.drew.bys.frozen q
          have hpk := h7.drew.poke q b
          have hPK : app kept (Lk ++ [(q, b)]) = (app kept Lk).set q b := app_snoc _ _ _
          rw [← hPK, ← HS.out] at hpk
          rw [hlq] at D1
          unfold byt at Gq hpk
          have hchG : Chg (fun j => j = G) wc (wc.drew.setCell ⟨G, q, none⟩ (.int .u8 (b.toNat : Int))) := Chg.set (S := fun j => j = G) ((Chg.refl _ _).drew) rfl _ _
          go_upto_region 13 with fail
          have hend : ∀ wx, Chg (fun j => j = G) wc wx → Blk wx C 25 #[.pointer (some ⟨D, 0, none⟩)] ∧ Blk wx (C + 1) 3 #[.int .i64 (a : Nat)] ∧ Rd wx (some ad) (byts bl) ∧ (∀ ad', some ad = some ad' → Has wx ad'.block 5) ∧ PwAt wx P false (armed - 1) picks (writes + 1) devs ∧ ChgN B G w wx := by
            intro wx hc9
            have hGh := h7.bys.has
            have hneG : ∀ ad', some ad = some ad' → ¬ ad'.block = G := fun ad' e => hA3 ad' e
            exact ⟨hC7.keep hc9 (hC7.has.ne hGh (by decide)), hT77.keep hc9 (hT77.has.ne hGh (by decide)), hr7.keepC hc9 hneG, fun ad' e => (hr87 ad' e).keep hc9 (hneG ad' e), ⟨hp7.blk.keep hc9 (hp7.blk.has.ne hGh (by decide))⟩,
              hch7.trans (ChgN.of hc9 fun j _ hj => ⟨by rw [show j = G from hj]; exact h7.low.2, .inl hj⟩)⟩
          have hwk : IntKind.i64.wrap ((k : Int) + 1) = ((k + 1 : Nat) : Int) := by rw [IntWalk.i64_in _ (by omega)]; omega
          have e1 := hend _ hchG
          have e2 := hend _ hchG.drew
          have hpk2 := hpk.drew
          have HL7 := Lib.hid hl7
          clear hend h7 hC7 hT77 hI7 hr7 hr87 hp7 hch7 hl7 HS hPK hwas hpq hchG
          go_region_law (fail) /-DEV3-/
          all_goals (go_wp2_with fail; go_roundg (bl.length - (k + 1)); (case measure => omega); (case rel => first | exact ⟨k + 1, _, uA', uc', rfl, by omega, by go_num, hpk, HL7.out, e1⟩ | exact ⟨k + 1, _, uA', uc', rfl, by omega, by go_num, hpk2, HL7.out, e2⟩))
    · obtain rfl : k = bl.length := by omega
      have r1 : ¬ (bl.length : Int) < (bl.length : Int) := by omega
      rw [List.take_length] at h l
      go_wp2_with fail
      go_ret
      rw [HFP.out]
      exact ⟨rfl, us, ⟨uA, uc, h⟩, l, hp, hch⟩
end Go.Proofs.Ytadgaphgomagkaa
