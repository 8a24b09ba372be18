/- The law's looks: a table tells what its facts say. -/
import Derived.Test.YtadgaphgomagkaaJd
import Derived.Test.YtadgaphgomagkaaLz
namespace Go.Proofs.Ytadgaphgomagkaa
open Go.RowKit
set_option maxHeartbeats 8000000
set_option maxRecDepth 100000

theorem looks_any (g : Nat) (At : Option Addr) (ct : Nat) (L : List FM) (A : Option Addr) (c : Nat) (l : List FM) (lo up : ByteArray) (w : World) (hT : TblAt w g At L ct) (hAt : ∀ ad, At = some ad → ad.block < w.heap.size) (hLok : ∀ f ∈ L, f.ok w) (hLlo : ∀ f ∈ L, ∀ ad, f.A = some ad → ad.block < w.heap.size)
    (hr : Rd w A (fcells l)) (hok : ∀ f ∈ l, f.ok w) (hL : L.map FM.fv = l.map FM.fv) (hLr : rightF L = true) (hl : l.length ≤ 400) :
    Calls Try.prog 43 #[.pointer (some ⟨g, 0, none⟩), .slice A l.length c, .string lo, .string up] w fun e w' => e = .returned (.bool true) ∧ Below w.heap.size w w' := by
  have hLl : L.length = l.length := by have := congrArg List.length hL; simpa using this
  have hLs : ∀ f ∈ L, f.s < 18446744073709551616 := fun f hf => (hLok f hf).seq
  have hlen := len_any g At L ct w hT
  have hall := lawAll_any g At ct L w hT hAt hLok hLlo (by omega)
  go_enter Try.func43, Try.ntmps43
  go_wp2_with fail
  refine hlen.mono ?_
  rintro e w1 ⟨rfl, rfl⟩
  clear hlen
  go_wp2_with fail
  refine hall.mono ?_
  rintro e w2 ⟨A2, c2, xs, rfl, hxs, hF2, hb2⟩
  clear hall
  have hsr := sameRows_any A2 A c2 c xs l w2 (Rd.of_own hF2.own) (hr.below hb2) hF2.ok (fun f hf => (hok f hf).below hb2) (by have := congrArg List.length hxs; simp only [List.length_map] at this; omega)
  rw [decide_eq_true (hxs.trans hL)] at hsr
  go_wp2_with fail
  refine hsr.mono ?_
  rintro e w3 ⟨rfl, hb3⟩
  have hb03 := hb2.trans (hb3.mono hb2.size)
  clear hsr hF2 hxs hb2 hb3
  have hX : (l.map FM.fv).length = l.length := by simp
  obtain ⟨p, hp⟩ : ∃ p, plF L lo = p := ⟨_, rfl⟩
  obtain ⟨q, hq⟩ : ∃ q, max p (plF L up) = q := ⟨_, rfl⟩
  have HP := Lib.hid hp
  have HQ := Lib.hid hq
  clear hp hq
  go_wp2_with fail
  go_loopg [9, 10, 11, 12, 13, 14] l.length (fun m s9 s10 s11 s12 s13 s14 wr => ∃ (i : Nat) (S : List FM) (sA : Option Addr) (sc : Nat), m = l.length - i ∧ i ≤ l.length ∧ s12 = .int .i64 (i : Nat) ∧ s10 = .int .u64 (lstF l i : Nat) ∧ s11 = .int .u64 (mstF l i : Nat) ∧ s9 = .slice sA S.length sc ∧ Row wr w3.heap.size sA sc S ∧ S.map FM.fv = someV (l.map FM.fv) p q i ∧ Below w3.heap.size w3 wr)
  case atStart => exact ⟨0, [], none, 0, by omega, by omega, rfl, rfl, rfl, rfl, (Facts.nil _ _).row, by rw [someV_zero]; rfl, Below.refl _ _⟩
  case round =>
    obtain ⟨i, S, sA, sc, rfl, hi, rfl, rfl, rfl, rfl, hS, hSm, hb⟩ := hrel
    have hbw := hb03.trans (hb.mono hb03.size)
    by_cases hlt : i < l.length
    · have r1 : (i : Int) < (l.length : Int) := by omega
      obtain ⟨la, rfl, c0, c1, c2⟩ := facts_at (hr.below hbw) i hlt
      have hf : l[i]? = some l[i] := List.getElem?_eq_getElem hlt
      have hfo := hok _ (List.getElem_mem hlt)
      obtain ⟨hiL, hkk, hfv⟩ := keys_same hL.symm i hlt
      have hplo := plF_iff L lo hLr hLs i hiL
      have hpup := plF_iff L up hLr hLs i hiL
      rw [← hkk, HP.out] at hplo
      rw [← hkk] at hpup
      have hxi : (l.map FM.fv)[i]'(by omega) = l[i].fv := by simp
      have hsin := someV_in (l.map FM.fv) p q i (by omega)
      have hsout := someV_out (l.map FM.fv) p q i
      rw [hxi] at hsin
      have hpq : p ≤ q := by rw [← HQ.out]; omega
      have hqup : p ≤ i → (i < q ↔ i < plF L up) := fun h => by rw [← HQ.out]; omega
      have hl0 : i = 0 → lstF l (i + 1) = l[i].s := fun h => by subst h; exact lstF_one l hlt
      have hl1 : 0 < i → lstF l (i + 1) = min (lstF l i) l[i].s := lstF_succ l i hlt
      have hm1 := mstF_succ l i hlt
      have hget : (∀ h : 0 < i, (l[i - 1]'(by omega)).k ≠ l[i].k) → getF L l[i].k = some L[i] := fun h => by
        have e := strB_inj hkk
        rw [e]
        refine getF_first L hLr hLs i hiL fun h0 => ?_
        obtain ⟨_, hk1, _⟩ := keys_same hL.symm (i - 1) (by omega)
        rw [← strB_inj hk1, ← e]
        exact h h0
      have hLfo := hLok _ (List.getElem_mem hiL)
      generalize hfe : l[i] = f at *
      generalize L[i] = F at *
      clear hkk hxi
      obtain ⟨bA, hbA⟩ : ∃ bA, decide (p ≤ i ∧ i < q) = bA := ⟨_, rfl⟩
      have HBA := Lib.hid hbA
      clear hbA
      go_upto_region 9 with fail
      go_cut [55] (fun s55 wx => s55 = .bool bA ∧ wr = wx)
      case first =>
        as_aux_lemma =>
        clear hget hl0 hl1 hm1
        by_cases hbk : bl (strB f.k) (strB lo)
        · have q1 : Op.bytesLess f.k.toList lo.toList = true := by rw [Lib.toList_data, Lib.toList_data]; exact hbk
          have q2 : (!Op.bytesLess f.k.toList lo.toList) = false := by rw [q1]; rfl
          have hip := hplo.1 hbk
          go_wp2_with fail
          go_meet
          exact ⟨by rw [← HBA.out, decide_eq_false (by omega)], rfl⟩
        · have q1 : Op.bytesLess f.k.toList lo.toList = false := by rw [Lib.toList_data, Lib.toList_data]; exact (Bool.not_eq_true _).mp hbk
          have q2 : (!Op.bytesLess f.k.toList lo.toList) = true := by rw [q1]; rfl
          have hip : p ≤ i := by
            rcases Nat.lt_or_ge i p with h | h
            · exact absurd (hplo.2 h) hbk
            · exact h
          by_cases hbu : bl (strB f.k) (strB up)
          · have q3 : Op.bytesLess f.k.toList up.toList = true := by rw [Lib.toList_data, Lib.toList_data]; exact hbu
            have hiq := (hqup hip).2 (hpup.1 hbu)
            go_wp2_with fail
            go_meet
            exact ⟨by rw [← HBA.out, decide_eq_true (by omega)], rfl⟩
          · have q3 : Op.bytesLess f.k.toList up.toList = false := by rw [Lib.toList_data, Lib.toList_data]; exact (Bool.not_eq_true _).mp hbu
            have hiq : q ≤ i := by
              rcases Nat.lt_or_ge i q with h | h
              · exact absurd (hpup.2 ((hqup hip).1 h)) hbu
              · exact h
            go_wp2_with fail
            go_meet
            exact ⟨by rw [← HBA.out, decide_eq_false (by omega)], rfl⟩
      case rest =>
      obtain ⟨rfl, rfl⟩ := hcut
      clear hplo hpup hqup
      go_upto_if 55 with fail
      go_cut [9] (fun s9 wx => ∃ (S2 : List FM) (sA2 : Option Addr) (sc2 : Nat), s9 = .slice sA2 S2.length sc2 ∧ Row wx w3.heap.size sA2 sc2 S2 ∧ S2.map FM.fv = someV (l.map FM.fv) p q (i + 1) ∧ Below w3.heap.size w3 wx)
      case first =>
        as_aux_lemma =>
        clear hget hl0 hl1 hm1
        cases bA with
        | false =>
          have hn : ¬ (p ≤ i ∧ i < q) := of_decide_eq_false HBA.out
          go_wp2_with fail
          go_meet
          exact ⟨S, sA, sc, rfl, hS, by rw [hSm, hsout (by omega) hpq], hb⟩
        | true =>
          have hn : p ≤ i ∧ i < q := of_decide_eq_true HBA.out
          have hx := (Below.refl wr.heap.size wr).alloc (Nat.le_refl _) (.cells #[.string f.k, .int .u64 (f.s : Nat), .slice f.A f.l.length f.c] 71)
          have hSx := hS.below hx
          have hbx := hb.trans (hx.mono hb.size)
          have hSl : S.length ≤ 400 := by
            have := congrArg List.length hSm
            simp only [List.length_map, someV, List.length_take, List.length_drop] at this
            omega
          go_wp2_with (at_builtin; refine wpList_app _ rfl _ _ rfl slF w3.heap.size (.slice sA S.length sc) S.length (fcells S) rfl hSx.own _ 1 1 [.string f.k, .int .u64 (f.s : Nat), .slice f.A f.l.length f.c] rfl rfl (Rd.many _ _ _) (by simp [Value.oneCell']) (by unfold maxLen; omega) (by omega) hbx.size ?_; intro A7 c7 w7 ho7 hg7)
          go_meet
          have hb7 := hbx.trans (hg7.under hSx.own (Nat.le_refl _) hbx.size)
          refine ⟨S ++ [f], A7, c7, by rw [List.length_append]; rfl, hSx.app (M := [f]) (fun q hq => by rw [List.mem_singleton.1 hq]; exact (hfo.below hb03).below hbx) (fun q hq hn ad e e2 => ?_) ho7 hg7, ?_, hb7⟩
          · rw [List.mem_singleton.1 hq] at hn e
            obtain ⟨ad', e', hltb, _⟩ := (hfo.below hb03).rd (by simpa [byts] using hn)
            rw [e] at e'
            injection e' with e'
            subst e'
            have := (hS.own.lt _ e2).1
            omega
          · rw [List.map_append, hSm, hsin hn.1 hn.2]
            rfl
      case rest =>
      obtain ⟨S2, sA2, sc2, rfl, hS2, hSm2, hb2⟩ := hcut
      clear hS hSm hb hbw c0 c1 c2 hsin hsout HBA
      obtain ⟨la', hla, c0, c1, c2⟩ := facts_at (hr.below (hb03.trans (hb2.mono hb03.size))) i hlt
      injection hla with hla
      subst hla
      rw [hfe] at c0 c1 c2
      obtain ⟨bB, hbB⟩ : ∃ bB, decide (i = 0 ∨ f.s < lstF l i) = bB := ⟨_, rfl⟩
      have HBB := Lib.hid hbB
      clear hbB
      go_upto_region 11 with fail
      go_cut [73] (fun s73 wx => s73 = .bool bB ∧ wc = wx)
      case first =>
        as_aux_lemma =>
        clear hget hl0 hl1 hm1
        rcases Nat.eq_zero_or_pos i with h0 | h0
        · have k0 : ((i : Int) == 0) = true := by subst h0; rfl
          go_wp2_with fail
          go_meet
          exact ⟨by rw [← HBB.out, decide_eq_true (.inl h0)], rfl⟩
        · have k0 : ((i : Int) == 0) = false := by rw [beq_eq_false_iff_ne]; omega
          have hd : decide (f.s < lstF l i) = bB := by rw [← HBB.out]; simp; omega
          generalize lstF l i = ls at *
          go_wp2_with fail
          go_meet
          exact ⟨rfl, rfl⟩
      case rest =>
      obtain ⟨rfl, rfl⟩ := hcut
      go_upto_if 73 with fail
      go_cut [10] (fun s10 wx => s10 = .int .u64 (lstF l (i + 1) : Nat) ∧ wc = wx)
      case first =>
        as_aux_lemma =>
        clear hget hm1
        cases bB with
        | false =>
          have hn : ¬ (i = 0 ∨ f.s < lstF l i) := of_decide_eq_false HBB.out
          have e := hl1 (by omega)
          rw [Nat.min_eq_left (by omega)] at e
          clear hl1 hl0
          go_wp2_with fail
          go_meet
          exact ⟨by rw [e], rfl⟩
        | true =>
          have hn : i = 0 ∨ f.s < lstF l i := of_decide_eq_true HBB.out
          have e : lstF l (i + 1) = f.s := by
            rcases Nat.eq_zero_or_pos i with h0 | h0
            · exact hl0 h0
            · rw [hl1 h0]; omega
          clear hl1 hl0
          go_wp2_with fail
          go_meet
          exact ⟨by rw [e], rfl⟩
      case rest =>
      obtain ⟨rfl, rfl⟩ := hcut
      clear hl0 hl1 HBB
      go_upto_if 85 with fail
      go_cut [11] (fun s11 wx => s11 = .int .u64 (mstF l (i + 1) : Nat) ∧ wc = wx)
      case first =>
        as_aux_lemma =>
        clear hget
        have HM1 := Lib.hid hm1
        clear hm1
        by_cases hgt : mstF l i < f.s
        · have k1 : ((mstF l i : Nat) : Int) < (f.s : Int) := by omega
          go_wp2_with fail
          go_meet
          exact ⟨by rw [HM1.out, Nat.max_eq_right (by omega)], rfl⟩
        · have k1 : ¬ ((mstF l i : Nat) : Int) < (f.s : Int) := by omega
          go_wp2_with fail
          go_meet
          exact ⟨by rw [HM1.out, Nat.max_eq_left (by omega)], rfl⟩
      case rest =>
      obtain ⟨rfl, rfl⟩ := hcut
      clear hm1
      obtain ⟨bC, hbC⟩ : ∃ bC, decide (i = 0 ∨ (l[i - 1]'(by omega)).k ≠ f.k) = bC := ⟨_, rfl⟩
      have HBC := Lib.hid hbC
      clear hbC
      go_upto_region 15 with fail
      go_cut [106] (fun s106 wx => s106 = .bool bC ∧ ∃ nq, wc.drewN nq = wx)
      case first =>
        as_aux_lemma =>
        clear hget
        rcases Nat.eq_zero_or_pos i with h0 | h0
        · have k0 : ((i : Int) == 0) = true := by subst h0; rfl
          go_quiet (fail)
          go_wp2_with fail
          go_meet
          exact ⟨by rw [← HBC.out, decide_eq_true (.inl h0)], _, rfl⟩
        · obtain ⟨j, rfl⟩ : ∃ j, i = j + 1 := ⟨i - 1, by omega⟩
          have k0 : (((j + 1 : Nat) : Int) == 0) = false := by rw [beq_eq_false_iff_ne]; omega
          have k0' : ¬ ((j : Int) + 1 = 0) := by omega
          have kw : IntKind.i64.wrap (j : Int) = (j : Int) := IntWalk.i64_in _ (by omega)
          have k00 : (0 : Int) ≤ (j : Int) := by omega
          have k01 : (0 : Int) ≤ (j : Int) + 1 := by omega
          have k02 : (j : Int) + 1 < (l.length : Int) := by omega
          obtain ⟨la', hla, d0, _, _⟩ := facts_at (hr.below (hb03.trans (hb2.mono hb03.size))) j (by omega)
          injection hla with hla
          subst hla
          have hjl : (j : Int) < (l.length : Int) := by omega
          have hd : (!((l[j]'(by omega)).k.toList == f.k.toList)) = bC := by
            rw [← HBC.out, key_eq]
            simp only [Nat.add_sub_cancel, Nat.add_one_ne_zero, false_or, ne_eq, decide_not]
            congr 1
            exact decide_eq_decide.2 ⟨fun h => strB_inj h, fun h => congrArg strB h⟩
          generalize (l[j]'(by omega)).k = kj at *
          go_quiet (fail)
          go_wp2_with fail
          go_meet
          exact ⟨rfl, _, rfl⟩
      case rest =>
      obtain ⟨rfl, nq, rfl⟩ := hcut
      have hS3 := hS2.drewN nq
      have hb3 : Below w3.heap.size w3 (wc.drewN nq) := ⟨hb2.os, hb2.tape, hb2.output, hb2.size, hb2.block⟩
      clear c0 c1 c2 hS2 hb2
      generalize wc.drewN nq = w4 at *
      cases bC with
      | false =>
          clear hget
          go_wp2_with fail
          go_roundg (l.length - (i + 1))
          case measure => omega
          case rel => exact ⟨i + 1, S2, sA2, sc2, rfl, by omega, by go_num, rfl, rfl, rfl, hS3, hSm2, hb3⟩
      | true =>
          have hn : i = 0 ∨ (l[i - 1]'(by omega)).k ≠ f.k := of_decide_eq_true HBC.out
          have hg := hget fun h => hn.resolve_left (by omega)
          have hbw := hb03.trans (hb3.mono hb03.size)
          have hgt := get_any g At ct L f.k w4 ⟨hT.blk.below' hbw, hT.rd.below hbw, hT.cap⟩ (fun q hq => (hLok q hq).below hbw) (by omega)
          rw [hg] at hgt
          have hgt : Calls Try.prog 38 #[.pointer (some ⟨g, 0, none⟩), .string f.k] w4 fun e w' => Below w4.heap.size w4 w' ∧ ∃ A' c', e = .returned (.tuple #[.agg #[.string F.k, .int .u64 (F.s : Nat), .slice A' F.l.length c'], .bool true]) ∧ w'.ownsRow w4.heap.size 5 1 (.slice A' F.l.length c') F.l.length (byts F.l) := hgt
          obtain ⟨la', hla, c0, c1, c2⟩ := facts_at (hr.below hbw) i hlt
          injection hla with hla
          subst hla
          rw [hfe] at c0 c1 c2
          clear hget hg
          go_wp2_with fail
          refine hgt.mono ?_
          rintro e w5 ⟨hb5, A5, c5, rfl, ho5⟩
          clear hgt
          have hx5 := (Below.refl w5.heap.size w5).alloc (Nat.le_refl _) (.cells #[.string F.k, .int .u64 (F.s : Nat), .slice A5 F.l.length c5] 71)
          have hBx := Blk.new w5 71 #[.string F.k, .int .u64 (F.s : Nat), .slice A5 F.l.length c5]
          have hyo : FM.ok ⟨F.k, F.s, A5, c5, F.l⟩ w5 := ⟨Rd.of_own ho5, (own_cap ho5).1, hLfo.few, hLfo.seq, hLfo.key⟩
          have hyo2 := hyo.below hx5
          have hb45 := hb5.trans (hx5.mono hb5.size)
          have hrl := hr.below (hbw.trans (hb45.mono hbw.size))
          have hfo2 := hfo.below (hbw.trans (hb45.mono hbw.size))
          have hfl : l[i]? = some f := by rw [← hfe]; exact List.getElem?_eq_getElem hlt
          go_wp2_with fail
          refine regLk17 (x := ⟨F.k, F.s, A5, c5, F.l⟩) (f := f) hrl.drew hfl hlt hBx ⟨hyo2.rd, hyo2.cap, hyo2.few, hyo2.seq, hyo2.key⟩ ⟨hfo2.rd, hfo2.cap, hfo2.few, hfo2.seq, hfo2.key⟩ hfv.symm ?_
          intro w6 _ _ _ _ _ _ _ _ _ _ hb6
          go_wp2_with fail
          have hb46 := hb45.trans (hb6.mono hb45.size)
          go_roundg (l.length - (i + 1))
          case measure => omega
          case rel => exact ⟨i + 1, S2, sA2, sc2, rfl, by omega, by go_num, rfl, rfl, rfl, hS3.below hb46, hSm2, hb3.trans (hb46.mono hb3.size)⟩
    · obtain rfl : i = l.length := by omega
      have r1 : ¬ (l.length : Int) < (l.length : Int) := by omega
      have hTr : TblAt wr g At L ct := ⟨hT.blk.below' hbw, hT.rd.below hbw, hT.cap⟩
      have hAr : ∀ ad, At = some ad → ad.block < wr.heap.size := fun ad h => Nat.lt_of_lt_of_le (hAt ad h) hbw.size
      have hLr2 : ∀ f ∈ L, f.ok wr := fun f hf => (hLok f hf).below hbw
      have hLl2 : ∀ f ∈ L, ∀ ad, f.A = some ad → ad.block < wr.heap.size := fun f hf ad h => Nat.lt_of_lt_of_le (hLlo f hf ad h) hbw.size
      have hbd := bounds_any g At ct L wr hTr hAr hLr2 hLl2 (by omega)
      have hrw := hr.below hbw
      have hokw := fun f hf => (hok f hf).below hbw
      have hsx : someV (l.map FM.fv) p q l.length = (rngF L lo up).map FM.fv := by rw [rngF_fv, HP.out, HQ.out, hL, hX]
      rw [hsx] at hSm
      clear hsx
      obtain ⟨bD, hbD⟩ : ∃ bD, decide (0 < l.length) = bD := ⟨_, rfl⟩
      have HBD := Lib.hid hbD
      clear hbD
      go_upto_region 19 with fail
      go_cut [15, 16, 17, 18, 19, 128, 129, 130, 131, 132, 133, 134, 135] (fun s15 s16 s17 s18 s19 s128 s129 s130 s131 s132 s133 s134 s135 wx => Below wr.heap.size wr wx ∧ s19 = .bool bD ∧ s17 = .int .u64 (lstF l l.length : Nat) ∧ s18 = .int .u64 (mstF l l.length : Nat) ∧ ((∃ h : 0 < l.length, s15 = .string l[0].k ∧ s16 = .string (l[l.length - 1]'(by omega)).k) ∨ (l.length = 0 ∧ s15 = .string ⟨#[]⟩ ∧ s16 = .string ⟨#[]⟩)))
      case first =>
        as_aux_lemma =>
        rcases Nat.eq_zero_or_pos l.length with h0 | h0
        · have hR := bndF_nil hL h0
          unfold BndPost at hbd
          rw [hR] at hbd
          have H0 := Lib.hid h0
          clear h0 hR
          go_wp2_with fail
          refine hbd.mono ?_
          rintro e w5 ⟨rfl, hb5⟩
          clear hbd
          go_wp2_with fail
          go_meet
          exact ⟨hb5, by rw [← HBD.out, decide_eq_false (by rw [H0.out]; omega)], by rw [H0.out]; rfl, by rw [H0.out]; rfl, .inr ⟨H0.out, rfl, rfl⟩⟩
        · have hR := bndF_looks hL h0
          unfold BndPost at hbd
          rw [hR] at hbd
          clear hR
          go_wp2_with fail
          refine hbd.mono ?_
          rintro e w5 ⟨rfl, hb5⟩
          clear hbd
          go_wp2_with fail
          go_meet
          exact ⟨hb5, by rw [← HBD.out, decide_eq_true h0], rfl, rfl, .inl ⟨h0, rfl, rfl⟩⟩
      case rest =>
      obtain ⟨hbc, rfl, rfl, rfl, hks⟩ := hcut
      clear hbd
      have hbr := hb.trans (hbc.mono hb.size)
      have hbwc := hbw.trans (hbc.mono hbw.size)
      replace hS := hS.below hbc
      replace hrw := hr.below hbwc
      replace hokw := fun f hf => (hok f hf).below hbwc
      clear hTr hAr hLr2 hLl2 hb hbw hbc
      generalize lstF l l.length = ls at *
      generalize mstF l l.length = ms at *
      go_upto_region 20 with fail
      go_cut [184] (fun s184 wx => s184 = .bool false ∧ wc = wx)
      case first =>
        as_aux_lemma =>
        rcases hks with ⟨h0, rfl, rfl⟩ | ⟨h0, rfl, rfl⟩
        · obtain rfl : bD = true := by rw [← HBD.out, decide_eq_true h0]
          obtain ⟨la, rfl, c0, d1, d2⟩ := facts_at hrw 0 h0
          obtain ⟨la', hla, cz, d3, d4⟩ := facts_at hrw (l.length - 1) (by omega)
          injection hla with hla
          subst hla
          clear d1 d2 d3 d4
          simp only [Nat.zero_mul] at c0
          rw [show la.add 0 = la by simp [Addr.add]] at c0
          generalize (l[l.length - 1]'(by omega)).k = kz at *
          generalize l[0].k = k0 at *
          obtain ⟨z, hzz⟩ : ∃ z, l.length - 1 = z := ⟨_, rfl⟩
          rw [hzz] at cz
          have kw : IntKind.i64.wrap ((l.length : Int) - 1) = (z : Int) := by rw [IntWalk.i64_in _ (by omega)]; omega
          have kl : (0 : Int) < (l.length : Int) := by omega
          have kzl : (z : Int) < (l.length : Int) := by omega
          have kz0 : (0 : Int) ≤ (z : Int) := by omega
          have q0 : (k0.toList == k0.toList) = true := by simp
          have q1 : (kz.toList == kz.toList) = true := by simp
          clear hzz
          go_wp2_with fail
          go_meet
          exact ⟨rfl, rfl⟩
        · obtain rfl : bD = false := by rw [← HBD.out, decide_eq_false (by omega)]
          have kl : decide (0 < l.length) = false := decide_eq_false (by omega)
          clear h0
          go_wp2_with fail
          go_meet
          exact ⟨rfl, rfl⟩
      case rest =>
      obtain ⟨rfl, rfl⟩ := hcut
      clear hks
      have hSl : S.length ≤ 400 := by
        have h1 := congrArg List.length hSm
        have h2 := rngF_le L lo up
        simp only [List.length_map] at h1
        omega
      have hTc : TblAt wc g At L ct := ⟨hT.blk.below' (hb03.trans (hbr.mono hb03.size)), hT.rd.below (hb03.trans (hbr.mono hb03.size)), hT.cap⟩
      have hbw := hb03.trans (hbr.mono hb03.size)
      have hgt := get_any g At ct L lo wc hTc (fun q hq => (hLok q hq).below hbw) (by omega)
      have hgs := fun h f => getF_some L hLr hLs lo up h f
      have hgn := getF_none L lo up
      rw [HP.out, HQ.out, hL] at hgs hgn
      have hSX : someV (l.map FM.fv) p q (l.map FM.fv).length = S.map FM.fv := by rw [hSm, rngF_fv, HP.out, HQ.out, hL]
      rw [hSX] at hgs hgn
      clear hSX
      go_upto_region 22 with fail
      go_cut [19, 20, 185, 186, 187, 188, 189, 190] (fun s19 s20 s185 s186 s187 s188 s189 s190 wx => Below wc.heap.size wc wx ∧ ((s19 = .bool false ∧ (∃ gx, s20 = .pointer (some ⟨gx, 0, none⟩)) ∧ getF L lo = none) ∨ ∃ (x : FM) (f : FM) (gx : Nat), s19 = .bool true ∧ s20 = .pointer (some ⟨gx, 0, none⟩) ∧ getF L lo = some f ∧ x.fv = f.fv ∧ x.ok wx ∧ Blk wx gx 71 x.cells.toArray))
      case first =>
        as_aux_lemma =>
        clear hgs hgn
        cases hG : getF L lo with
        | none =>
          rw [hG] at hgt
          have hgt : Calls Try.prog 38 #[.pointer (some ⟨g, 0, none⟩), .string lo] wc fun e w' => Below wc.heap.size wc w' ∧ e = .returned (.tuple #[.agg #[.string ⟨#[]⟩, .int .u64 0, .slice none 0 0], .bool false]) := hgt
          go_wp2_with fail
          refine hgt.mono ?_
          rintro e w5 ⟨hb5, rfl⟩
          clear hgt
          have hx5 := (Below.refl w5.heap.size w5).alloc (Nat.le_refl _) (.cells #[.string ⟨#[]⟩, .int .u64 0, .slice none 0 0] 71)
          go_wp2_with fail
          go_meet
          exact ⟨hb5.trans (hx5.mono hb5.size), .inl ⟨rfl, ⟨_, rfl⟩, hG⟩⟩
        | some F =>
          rw [hG] at hgt
          have hgt : Calls Try.prog 38 #[.pointer (some ⟨g, 0, none⟩), .string lo] wc fun e w' => Below wc.heap.size wc w' ∧ ∃ A' c', e = .returned (.tuple #[.agg #[.string F.k, .int .u64 (F.s : Nat), .slice A' F.l.length c'], .bool true]) ∧ w'.ownsRow wc.heap.size 5 1 (.slice A' F.l.length c') F.l.length (byts F.l) := hgt
          have hFL : F ∈ L := by
            unfold getF at hG
            split at hG
            · rename_i f2 hf2
              split at hG
              · injection hG with hG
                subst hG
                exact List.mem_of_getElem? hf2
              · cases hG
            · cases hG
          have hLfo := hLok F hFL
          go_wp2_with fail
          refine hgt.mono ?_
          rintro e w5 ⟨hb5, A5, c5, rfl, ho5⟩
          clear hgt
          have hx5 := (Below.refl w5.heap.size w5).alloc (Nat.le_refl _) (.cells #[.string F.k, .int .u64 (F.s : Nat), .slice A5 F.l.length c5] 71)
          have hBx := Blk.new w5 71 #[.string F.k, .int .u64 (F.s : Nat), .slice A5 F.l.length c5]
          have hyo : FM.ok ⟨F.k, F.s, A5, c5, F.l⟩ w5 := ⟨Rd.of_own ho5, (own_cap ho5).1, hLfo.few, hLfo.seq, hLfo.key⟩
          go_wp2_with fail
          go_meet
          exact ⟨hb5.trans (hx5.mono hb5.size), .inr ⟨⟨F.k, F.s, A5, c5, F.l⟩, F, _, rfl, rfl, hG, rfl, hyo.below hx5, hBx⟩⟩
      case rest =>
      obtain ⟨hbc, hcase⟩ := hcut
      clear hgt hTc
      have hbt := hbr.trans (hbc.mono hbr.size)
      replace hS := hS.below hbc
      clear hbr hbc hbw hrw hokw
      obtain ⟨bE, hbE⟩ : ∃ bE : Bool, bE = firstK S lo := ⟨_, rfl⟩
      have HBE := Lib.hid hbE
      clear hbE
      go_upto_region 23 with fail
      go_cut [21] (fun s21 wx => s21 = .bool bE ∧ wc = wx)
      case first =>
        as_aux_lemma =>
        clear hgs hgn hcase
        rcases Nat.eq_zero_or_pos S.length with hS0 | hS0
        · have kl : decide (0 < S.length) = false := decide_eq_false (by omega)
          have hE : bE = false := by rw [HBE.out, List.eq_nil_of_length_eq_zero hS0]; rfl
          have HE := Lib.hid hE
          clear hS0 hE
          go_wp2_with fail
          go_meet
          exact ⟨by rw [HE.out], rfl⟩
        · obtain ⟨sa, rfl, c0, d1, d2⟩ := facts_at (Rd.of_own hS.own) 0 hS0
          clear d1 d2
          simp only [Nat.zero_mul] at c0
          rw [show sa.add 0 = sa by simp [Addr.add]] at c0
          have hE : (S[0].k.toList == lo.toList) = bE := by
            rw [HBE.out]
            cases S with
            | nil => simp at hS0
            | cons f r => rfl
          generalize S[0].k = ks at *
          have kl : (0 : Int) < (S.length : Int) := by omega
          go_wp2_with fail
          go_meet
          exact ⟨rfl, rfl⟩
      case rest =>
      obtain ⟨rfl, rfl⟩ := hcut
      obtain ⟨bF, hbF⟩ : ∃ bF, Op.bytesLess lo.toList up.toList = bF := ⟨_, rfl⟩
      have HBF := Lib.hid hbF
      clear hbF
      go_upto_region 24 with fail
      go_cut [220] (fun s220 wx => s220 = .bool false ∧ Below wc.heap.size wc wx)
      case first =>
        as_aux_lemma =>
        cases bF with
        | false =>
          have q1 : Op.bytesLess lo.toList up.toList = false := HBF.out
          clear hgs hgn hcase HBE
          go_quiet (fail)
          go_wp2_with fail
          go_meet
          exact ⟨rfl, rfl, rfl, rfl, Nat.le_refl _, fun _ _ => rfl⟩
        | true =>
          have q1 : Op.bytesLess lo.toList up.toList = true := HBF.out
          have hbl : bl (strB lo) (strB up) := by rw [Lib.toList_data, Lib.toList_data] at q1; exact q1
          rcases hcase with ⟨rfl, ⟨gx, rfl⟩, hG⟩ | ⟨x, f, gx, rfl, rfl, hG, hxf, hxo, hBx⟩
          · have hE : bE = false := by
              rw [HBE.out]
              cases S with
              | nil => rfl
              | cons f r =>
                have := hgn hG f.fv (r.map FM.fv) rfl
                show (f.k.toList == lo.toList) = false
                rw [key_eq]
                exact decide_eq_false this
            subst hE
            clear hgs hgn hG
            go_quiet (fail)
            go_wp2_with fail
            go_meet
            exact ⟨rfl, rfl, rfl, rfl, Nat.le_refl _, fun _ _ => rfl⟩
          · obtain ⟨r, hr0, hk⟩ := hgs hbl f hG
            obtain ⟨s0, S1, rfl, hs0⟩ : ∃ s0 S1, S = s0 :: S1 ∧ s0.fv = f.fv := by
              cases S with
              | nil => cases hr0
              | cons a b =>
                rw [List.map_cons] at hr0
                injection hr0 with h1 h2
                exact ⟨a, b, rfl, h1⟩
            have hE : bE = true := by
              rw [HBE.out]
              show (s0.k.toList == lo.toList) = true
              rw [key_eq]
              refine decide_eq_true ?_
              rw [← hk]
              exact congrArg FV.k hs0
            subst hE
            clear hgs hgn hG
            obtain ⟨sa, rfl, _, _, _⟩ := facts_at (Rd.of_own hS.own) 0 (by simp)
            have hso := hS.ok s0 (by simp)
            refine regLk24 (n := S1.length) (x := x) (f := s0) (Rd.of_own hS.own).drew rfl q1 hBx ⟨hxo.rd, hxo.cap, hxo.few, hxo.seq, hxo.key⟩ ⟨hso.rd, hso.cap, hso.few, hso.seq, hso.key⟩ (hxf.trans hs0.symm) ?_
            intro w9 _ _ _ _ _ _ _ _ _ _ _ _ _ _ _ _ _ _ hb9
            go_wp2_with fail
            go_meet
            exact ⟨rfl, hb9⟩
      case rest =>
      obtain ⟨rfl, hbc⟩ := hcut
      clear hgs hgn hcase HBE HBF
      replace hS := hS.below hbc
      have hbz := hbt.trans (hbc.mono hbt.size)
      have hbw := hb03.trans (hbz.mono hb03.size)
      clear hbt hbc
      have hTc : TblAt wc g At L ct := ⟨hT.blk.below' hbw, hT.rd.below hbw, hT.cap⟩
      have hst := lawStretch_any g At ct L lo up wc hTc (fun ad h => Nat.lt_of_lt_of_le (hAt ad h) hbw.size) (fun f hf => (hLok f hf).below hbw) (fun f hf ad h => Nat.lt_of_lt_of_le (hLlo f hf ad h) hbw.size) (by omega)
      go_wp2_with fail
      refine hst.mono ?_
      rintro e w6 ⟨A6, c6, xs6, rfl, hxs, hF6, hb6⟩
      clear hst
      have hS6 := hS.below hb6
      have hx6 : xs6.length ≤ 400 := by
        have h1 := congrArg List.length hxs
        have h2 := rngF_le L lo up
        simp only [List.length_map] at h1
        omega
      have hsr := sameRows_any A6 sA c6 sc xs6 S w6 (Rd.of_own hF6.own) (Rd.of_own hS6.own) hF6.ok hS6.ok (by omega)
      rw [decide_eq_true (hxs.trans hSm.symm)] at hsr
      clear hxs hSm
      go_wp2_with fail
      refine hsr.mono ?_
      rintro e w7 ⟨rfl, hb7⟩
      go_wp2_with fail
      go_ret
      exact ⟨rfl, hbw.trans ((hb6.trans (hb7.mono hb6.size)).mono hbw.size)⟩
end Go.Proofs.Ytadgaphgomagkaa
