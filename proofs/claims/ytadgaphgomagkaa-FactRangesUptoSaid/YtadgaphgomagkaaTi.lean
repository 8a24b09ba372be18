/- FactRanges: the walk. -/
import Derived.Test.YtadgaphgomagkaaTh
import Derived.Test.YtadgaphgomagkaaLr
import Derived.Test.YtadgaphgomagkaaLt
namespace Go.Proofs.Ytadgaphgomagkaa
open Go.RowKit
set_option maxHeartbeats 8000000
set_option maxRecDepth 100000

/-- a row of facts, of whatever values -/
structure Row (w : World) (B : Nat) (A : Option Addr) (c : Nat) (L : List FM) : Prop where
  own : w.ownsRow B 71 3 (.slice A L.length c) L.length (fcells L)
  ok : ∀ f ∈ L, f.ok w
  ap : ∀ f ∈ L, f.l ≠ [] → ∀ ad, f.A = some ad → (Value.slice A L.length c).ownBlock ≠ some ad.block
theorem Facts.row {w : World} {B : Nat} {A : Option Addr} {c : Nat} {L : List FM} (h : Facts w B A c L) : Row w B A c L := ⟨h.own, h.ok, fun f hf _ => h.ap f hf⟩
theorem Row.below {w w' : World} {B : Nat} {A : Option Addr} {c : Nat} {L : List FM} (h : Row w B A c L) (hb : Below w.heap.size w w') : Row w' B A c L := ⟨own_below h.own hb, fun f hf => (h.ok f hf).below hb, h.ap⟩
theorem Row.drewN {w : World} {B : Nat} {A : Option Addr} {c : Nat} {L : List FM} (h : Row w B A c L) (n : Nat) : Row (w.drewN n) B A c L := ⟨h.own, fun f hf => ⟨(h.ok f hf).rd, (h.ok f hf).cap, (h.ok f hf).few, (h.ok f hf).seq, (h.ok f hf).key⟩, h.ap⟩
theorem Row.app {w w' : World} {B : Nat} {A A' : Option Addr} {c c' : Nat} {L M : List FM} (h : Row w B A c L) (hM : ∀ f ∈ M, f.ok w) (hMa : ∀ f ∈ M, f.l ≠ [] → ∀ ad, f.A = some ad → (Value.slice A L.length c).ownBlock ≠ some ad.block)
    (ho : w'.ownsRow B 71 3 (.slice A' (L.length + M.length) c') (L.length + M.length) (fcells L ++ fcells M)) (hg : Grew w w' (.slice A L.length c) (.slice A' (L.length + M.length) c')) : Row w' B A' c' (L ++ M) := by
  have hall : ∀ f ∈ L ++ M, f.ok w ∧ (f.l ≠ [] → ∀ ad, f.A = some ad → (Value.slice A L.length c).ownBlock ≠ some ad.block) := by
    intro f hf
    rcases List.mem_append.1 hf with h1 | h1
    · exact ⟨h.ok f h1, h.ap f h1⟩
    · exact ⟨hM f h1, hMa f h1⟩
  refine ⟨by rw [fcells_append, List.length_append]; exact ho, fun f hf => ?_, fun f hf hn ad e e2 => ?_⟩
  · obtain ⟨h1, h3⟩ := hall f hf
    refine ⟨?_, h1.cap, h1.few, h1.seq, h1.key⟩
    by_cases hn : f.l = []
    · rw [hn]; exact fun h => absurd rfl h
    · exact h1.rd.grew hg (h3 hn)
  · obtain ⟨h1, h3⟩ := hall f hf
    rw [List.length_append] at e2
    rcases hg.loc _ e2 with h4 | h4
    · exact h3 hn ad e h4
    · obtain ⟨ad', e', hlt, _⟩ := h1.rd (by simpa [byts] using hn)
      rw [e] at e'
      injection e' with e'
      subst e'
      omega
/-- texts in a row -/
def scells (l : List ByteArray) : List Value := l.map Value.string
theorem texts_at {w : World} {A : Option Addr} {l : List ByteArray} (hr : Rd w A (scells l)) (i : Nat) (h : i < l.length) : ∃ ad, A = some ad ∧ w.cell? (ad.add i) = some (.string l[i]) := by
  obtain ⟨ad, e, _, hc⟩ := hr.at_ (k := i) (by simpa [scells] using h)
  exact ⟨ad, e, by rw [hc]; simp [scells]⟩
theorem factRanges_any (w : World) (A C : Option Addr) (c cc : Nat) (l : List FM) (cuts : List ByteArray) (block : Int) (hr : Rd w A (fcells l)) (hok : ∀ f ∈ l, f.ok w) (hl : l.length ≤ 1048576) (hcr : Rd w C (scells cuts)) :
    Calls Try.prog 8 #[.slice A l.length c, .int .i64 block, .slice C cuts.length cc] w fun e w' => e = .returned (.bool true) ∧ Below w.heap.size w w' := by
  go_enter Try.func8, Try.ntmps8
  go_wp2_with fail
  refine (known11_any w).mono ?_
  rintro e w1 ⟨rfl, hb1⟩
  have hr1 := hr.below hb1
  have hok1 := fun f hf => (hok f hf).below hb1
  have hfew := few_any A c l 200 w1 hr1 hok1 hl
  have hbl := fun h => buildR_le l block 200 h (by decide)
  have hfl : fewF l 200 = true → l.length ≤ 200 := fun h => by simp only [fewF, Bool.and_eq_true, decide_eq_true_eq] at h; omega
  rw [show ((200 : Nat) : Int) = 200 from rfl] at hbl
  generalize fewF l 200 = fw at *
  go_wp2_with fail
  refine hfew.mono ?_
  rintro e w2 ⟨rfl, hb2⟩
  clear hfew
  have hb02 := hb1.trans (hb2.mono hb1.size)
  have hr2 := hr1.below hb2
  have hok2 := fun f hf => (hok1 f hf).below hb2
  clear hr1 hok1 hb1 hb2
  cases fw with
  | false =>
    go_wp2_with fail
    go_ret
    exact ⟨rfl, hb02⟩
  | true =>
    replace hbl := hbl rfl
    replace hfl := hfl rfl
    have hri := refRight_any A c l w2 hr2 hl
    cases hrl : rightF l with
    | false =>
      rw [hrl] at hri
      go_wp2_with fail
      refine hri.mono ?_
      rintro e w3 ⟨rfl, hb3⟩
      go_wp2_with fail
      go_ret
      exact ⟨rfl, hb02.trans (hb3.mono hb02.size)⟩
    | true =>
      rw [hrl] at hri
      go_wp2_with fail
      refine hri.mono ?_
      rintro e w3 ⟨rfl, hb3⟩
      clear hri
      have hb03 := hb02.trans (hb3.mono hb02.size)
      have hr3 := hr2.below hb3
      have hok3 := fun f hf => (hok2 f hf).below hb3
      clear hr2 hok2 hb02 hb3
      by_cases hcl : 30 < cuts.length
      · have k0 : (30 : Int) < (cuts.length : Int) := by omega
        clear hcl
        go_wp2_with fail
        go_ret
        exact ⟨rfl, hb03⟩
      have k0 : ¬ (30 : Int) < (cuts.length : Int) := by omega
      by_cases hblk : block < 1 ∨ 1048576 < block
      · rcases hblk with h1 | h1
        · go_wp2_with fail
          go_ret
          exact ⟨rfl, hb03⟩
        · have h2 : ¬ block < 1 := by omega
          go_wp2_with fail
          go_ret
          exact ⟨rfl, hb03⟩
      · have h1 : ¬ block < 1 := by omega
        have h2 : ¬ 1048576 < block := by omega
        have hbu := fbuild_any A c l block w3 hr3 hok3 hl
        have hob := open_build l block (fun f hf => (hok3 f hf).seq) (by omega) (by omega)
        clear hblk
        generalize buildR l block = R at *
        obtain ⟨b, er⟩ := R
        simp only at hbl hob
        go_wp2_with fail
        refine hbu.mono ?_
        rintro e w4 ⟨A4, c4, rfl, ho4, hb4⟩
        clear hbu
        have hb04 := hb03.trans (hb4.mono hb03.size)
        simp only at ho4 ⊢
        by_cases her : er = 0
        · subst her
          replace hob := hob rfl
          have hop := open_any A4 c4 b w4 (Rd.of_own ho4) (own_cap ho4).1 (by omega) fun ad h => ((own_cap ho4).2.2 ad h).2
          rw [hob] at hop
          clear hr3 hok3 hb03 h1 h2 hob
          go_wp2_with fail
          refine hop.mono ?_
          rintro e w5 ⟨hb5, h5 | ⟨_, g, At, ct, L, rfl, hL, hBg, hg, hF⟩⟩
          · exact absurd rfl h5.1
          clear hop
          have hb05 := hb04.trans (hb5.mono hb04.size)
          simp only at hL
          have hT : TblAt w5 g At L ct := ⟨hBg, Rd.of_own hF.own, (own_cap hF.own).1⟩
          have hAt : ∀ ad, At = some ad → ad.block < w5.heap.size := fun ad h => ((own_cap hF.own).2.2 ad h).2
          have hLl : L.length ≤ 200 := by
            have := congrArg List.length hL
            simp only [List.length_map] at this
            omega
          have hLr : rightF L = true := by rw [← rightF_fv, hL, rightF_fv]; exact hrl
          have hLs : ∀ f ∈ L, f.s < 18446744073709551616 := fun f hf => (hF.ok f hf).seq
          have hLlo : ∀ f ∈ L, ∀ ad, f.A = some ad → ad.block < w5.heap.size := fun f hf ad h => (hF.lo f hf ad h).2
          have hLok := hF.ok
          clear ho4 hb5 hb04 hbl hBg hF hg
          have hr5 := hr.below hb05
          have hok5 := fun f hf => (hok f hf).below hb05
          have hc5 := hcr.below hb05
          clear hr hok hcr
          go_wp2_with fail
          go_loopg [11, 12, 13] cuts.length (fun m s11 s12 s13 wr => ∃ (i : Nat) (lo : ByteArray) (S : List FM) (sA : Option Addr) (sc : Nat), m = cuts.length - i ∧ i ≤ cuts.length ∧ s13 = .int .i64 (i : Nat) ∧ s12 = .string lo ∧ s11 = .slice sA S.length sc ∧ Row wr w5.heap.size sA sc S ∧ S.map FM.fv = (L.map FM.fv).take (plF L lo) ∧ Below w5.heap.size w5 wr)
          case atStart => exact ⟨0, ⟨#[]⟩, [], none, 0, by omega, by omega, rfl, rfl, rfl, (Facts.nil _ _).row, by rw [plF_nil L hLr hLs]; rfl, Below.refl _ _⟩
          case round =>
            obtain ⟨i, lo, S, sA, sc, rfl, hi, rfl, rfl, rfl, hS, hSm, hb⟩ := hrel
            have hbw := hb05.trans (hb.mono hb05.size)
            by_cases hlt : i < cuts.length
            · have r1 : (i : Int) < (cuts.length : Int) := by omega
              obtain ⟨cad, rfl, cc0⟩ := texts_at (hc5.below hb) i hlt
              have hci : ∀ W, Below w5.heap.size w5 W → W.cell? (cad.add i) = some (.string cuts[i]) := fun W hW => by
                obtain ⟨ad', e, h⟩ := texts_at (hc5.below hW) i hlt
                injection e with e
                subst e
                exact h
              generalize cuts[i] = cut at *
              by_cases hlong : 1000 < cut.size
              · have k1 : (1000 : Int) < (cut.size : Int) := by omega
                clear hlong
                go_wp2_with fail
                go_ret
                exact ⟨rfl, hbw⟩
              have k1 : ¬ (1000 : Int) < (cut.size : Int) := by omega
              by_cases hle : bl (strB lo) (strB cut)
              · have q1 : Op.bytesLess cut.toList lo.toList = false := by
                  have h1 : ¬ bl (strB cut) (strB lo) := fun h => bl_irrefl _ (bl_trans h hle)
                  rw [Lib.toList_data, Lib.toList_data]
                  exact (Bool.not_eq_true _).mp h1
                have q2 : (cut.toList == lo.toList) = false := by
                  rw [key_eq]
                  refine decide_eq_false fun e => ?_
                  rw [e] at hle
                  exact bl_irrefl _ hle
                have hTr : TblAt wr g At L ct := ⟨hT.blk.below' hb, hT.rd.below hb, hT.cap⟩
                have hst := lawStretch_any g At ct L lo cut wr hTr (fun ad h => Nat.lt_of_lt_of_le (hAt ad h) hb.size) (fun f hf => (hLok f hf).below hb) (fun f hf ad h => Nat.lt_of_lt_of_le (hLlo f hf ad h) hb.size) (by omega)
                have hjoin := rng_join L hLr hLs lo cut hle
                have hrl2 := rngF_le L lo cut
                clear hlong hle
                go_wp2_with fail
                refine hst.mono ?_
                rintro e w6 ⟨A6, c6, xs, rfl, hxs, hF6, hb6⟩
                clear hst
                have hS6 := hS.below hb6
                have hcc6 := hci w6 (hb.trans (hb6.mono hb.size))
                have hb06 := hb.trans (hb6.mono hb.size)
                have hSl : S.length ≤ 200 := by
                  have := congrArg List.length hSm
                  simp only [List.length_map, List.length_take] at this
                  omega
                have hxl : xs.length ≤ 200 := by
                  have := congrArg List.length hxs
                  simp only [List.length_map] at this
                  omega
                have hMap : ∀ f ∈ xs, f.l ≠ [] → ∀ ad, f.A = some ad → (Value.slice sA S.length sc).ownBlock ≠ some ad.block := fun f hf _ ad h e2 => by
                  have h1 := (hS.own.lt _ e2).2
                  have h2 := (hF6.lo f hf ad h).1
                  omega
                have hfx := Lib.hid (fcells_length xs)
                go_wp2_with (at_builtin; refine wpList_app _ rfl _ _ rfl slF w5.heap.size (.slice sA S.length sc) S.length (fcells S) rfl hS6.own _ xs.length _ (fcells xs) rfl hfx.out (Rd.of_own hF6.own) (fcells_one xs) (by unfold maxLen; omega) (by omega) hb06.size ?_; intro A7 c7 w7 ho7 hg7; have hb7 := hb06.trans (hg7.under hS6.own (Nat.le_refl _) hb06.size); have hcc7 := hci w7 hb7)
                have hS7 := hS6.app hF6.ok hMap ho7 hg7
                go_roundg (cuts.length - (i + 1))
                case measure => omega
                case rel =>
                  refine ⟨i + 1, cut, S ++ xs, A7, c7, rfl, by omega, by go_num, rfl, by rw [List.length_append], hS7, ?_, hb7⟩
                  rw [List.map_append, hSm, hxs, ← List.map_take, ← List.map_append, hjoin, List.map_take]
              · have q1 : (Op.bytesLess cut.toList lo.toList || cut.toList == lo.toList) = true := by
                  rw [Bool.or_eq_true, key_eq, decide_eq_true_eq, Lib.toList_data, Lib.toList_data]
                  by_cases h : bl (strB cut) (strB lo)
                  · exact .inl h
                  · exact .inr (bl_tri h hle)
                clear hlong hle
                rcases Bool.or_eq_true_iff.1 q1 with q2 | q2
                · clear q1
                  go_wp2_with fail
                  go_roundg (cuts.length - (i + 1))
                  case measure => omega
                  case rel => exact ⟨i + 1, lo, S, sA, sc, rfl, by omega, by go_num, rfl, rfl, hS, hSm, hb⟩
                · clear q1
                  go_wp2_with fail
                  go_roundg (cuts.length - (i + 1))
                  case measure => omega
                  case rel => exact ⟨i + 1, lo, S, sA, sc, rfl, by omega, by go_num, rfl, rfl, hS, hSm, hb⟩
            · obtain rfl : i = cuts.length := by omega
              have r1 : ¬ (cuts.length : Int) < (cuts.length : Int) := by omega
              have hp := plF_le L lo
              have hSm2 : S.map FM.fv = (l.map FM.fv).take (plF L lo) := by rw [hSm, hL]
              obtain ⟨p, hpe⟩ : ∃ p, plF L lo = p := ⟨_, rfl⟩
              rw [hpe] at hp hSm2
              clear hSm hcl
              go_wp2_with fail
              go_loopg [11, 14, 15, 16, 17] l.length (fun m s11 s14 s15 s16 s17 wr2 => ∃ (j : Nat) (S : List FM) (sA : Option Addr) (sc : Nat), m = l.length - j ∧ j ≤ l.length ∧ s14 = .int .i64 (j : Nat) ∧ s11 = .slice sA S.length sc ∧ Row wr2 w5.heap.size sA sc S ∧ S.map FM.fv = (l.map FM.fv).take (max p j) ∧ Below w5.heap.size w5 wr2)
              case atStart => exact ⟨0, S, sA, sc, by omega, by omega, rfl, rfl, hS, by rw [hSm2]; simp, hb⟩
              case round =>
                clear hS hSm2 hb hbw
                obtain ⟨j, S, sA, sc, rfl, hj, rfl, rfl, hS, hSm, hb⟩ := hrel
                have hbw := hb05.trans (hb.mono hb05.size)
                have hSl : S.length ≤ 200 := by
                  have := congrArg List.length hSm
                  simp only [List.length_map, List.length_take] at this
                  omega
                by_cases hlt : j < l.length
                · have r2 : (j : Int) < (l.length : Int) := by omega
                  obtain ⟨la, rfl, c0, c1, c2⟩ := facts_at (hr5.below hb) j hlt
                  have hf : l[j]? = some l[j] := List.getElem?_eq_getElem hlt
                  obtain ⟨hjL, hkk, hfv⟩ := keys_same hL.symm j hlt
                  have hpl := plF_iff L lo hLr hLs j hjL
                  rw [← hkk, hpe] at hpl
                  have hka := fun (k0 : ByteArray) (h : strB k0 = strB (l[j]'hlt).k ++ [0]) => key_at L hLr hLs j hjL (l[j]'hlt).k k0 hkk.symm h
                  have hfo := hok5 _ (List.getElem_mem hlt)
                  have htk : (l.map FM.fv).take (j + 1) = (l.map FM.fv).take j ++ [l[j].fv] := by
                    rw [List.take_add_one]
                    simp [hf]
                  generalize l[j] = f at *
                  clear hkk hfv
                  go_upto_if 103 with fail
                  go_cut [11] (fun s11 wx => ∃ (S2 : List FM) (sA2 : Option Addr) (sc2 : Nat), s11 = .slice sA2 S2.length sc2 ∧ Row wx w5.heap.size sA2 sc2 S2 ∧ S2.map FM.fv = (l.map FM.fv).take (max p (j + 1)) ∧ Below w5.heap.size w5 wx)
                  case first =>
                    by_cases hbk : bl (strB f.k) (strB lo)
                    · have q1 : Op.bytesLess f.k.toList lo.toList = true := by rw [Lib.toList_data, Lib.toList_data]; exact hbk
                      have q2 : (!Op.bytesLess f.k.toList lo.toList) = false := by rw [q1]; rfl
                      have hjp := hpl.1 hbk
                      rw [q2]
                      go_wp2_with fail
                      go_meet
                      exact ⟨S, sA, sc, rfl, hS, by rw [hSm, Nat.max_eq_left (by omega), Nat.max_eq_left (by omega)], hb⟩
                    · have q1 : Op.bytesLess f.k.toList lo.toList = false := by rw [Lib.toList_data, Lib.toList_data]; exact (Bool.not_eq_true _).mp hbk
                      have q2 : (!Op.bytesLess f.k.toList lo.toList) = true := by rw [q1]; rfl
                      have hjp : p ≤ j := by
                        rcases Nat.lt_or_ge j p with h | h
                        · exact absurd (hpl.2 h) hbk
                        · exact h
                      rw [q2]
                      have hx := (Below.refl wr.heap.size wr).alloc (Nat.le_refl _) (.cells #[.string f.k, .int .u64 (f.s : Nat), .slice f.A f.l.length f.c] 71)
                      have hSx := hS.below hx
                      have hbx := hb.trans (hx.mono hb.size)
                      go_wp2_with (at_builtin; refine wpList_app _ rfl _ _ rfl slF w5.heap.size (.slice sA S.length sc) S.length (fcells S) rfl hSx.own _ 1 1 [.string f.k, .int .u64 (f.s : Nat), .slice f.A f.l.length f.c] rfl rfl (Rd.many _ _ _) (by simp [Value.oneCell']) (by unfold maxLen; omega) (by omega) hbx.size ?_; intro A7 c7 w7 ho7 hg7)
                      go_meet
                      have hb7 := hbx.trans (hg7.under hSx.own (Nat.le_refl _) hbx.size)
                      refine ⟨S ++ [f], A7, c7, by rw [List.length_append]; rfl, hSx.app (M := [f]) (fun q hq => by rw [List.mem_singleton.1 hq]; exact hfo.below hbx) (fun q hq hn ad e e2 => ?_) ho7 hg7, ?_, hb7⟩
                      · rw [List.mem_singleton.1 hq] at hn e
                        obtain ⟨ad', e', hltb, _⟩ := hfo.rd (by simpa [byts] using hn)
                        rw [e] at e'
                        injection e' with e'
                        subst e'
                        have := (hS.own.lt _ e2).1
                        omega
                      · rw [List.map_append, hSm, Nat.max_eq_right (by omega), Nat.max_eq_right (by omega), htk]
                        rfl
                  case rest =>
                  obtain ⟨S2, sA2, sc2, rfl, hS2, hSm2, hb2⟩ := hcut
                  clear hS hSm hSl hb hbw c0 c1 c2 hpl htk
                  obtain ⟨k1, hk1⟩ : ∃ k1, f.k ++ ⟨#[0]⟩ = k1 := ⟨_, rfl⟩
                  obtain ⟨hne, hall, f2, hget, h02, hk2⟩ := hka k1 (by rw [← hk1, strB_append]; rfl)
                  clear hka
                  have hTr : TblAt wc g At L ct := ⟨hT.blk.below' hb2, hT.rd.below hb2, hT.cap⟩
                  have hTd : TblAt wc.drew g At L ct := ⟨hTr.blk, hTr.rd, hTr.cap⟩
                  have hLokr : ∀ f ∈ L, f.ok wc := fun f hf => (hLok f hf).below hb2
                  have hwd : wc.drew.heap.size = wc.heap.size := rfl
                  go_upto_region 26 with fail
                  refine regFr26 (hr5.below hb2).drew hf hlt hTd (fun ad h => by rw [hwd]; exact Nat.lt_of_lt_of_le (hAt ad h) hb2.size) (fun q hq => ⟨(hLokr q hq).rd, (hLokr q hq).cap, (hLokr q hq).few, (hLokr q hq).seq, (hLokr q hq).key⟩) (fun q hq ad h => by rw [hwd]; exact Nat.lt_of_lt_of_le (hLlo q hq ad h) hb2.size) (by omega) hfo.key hk1 ?_
                  intro w6 _ _ _ _ _ _ _ _ _ _ _ _ _ A1 c1 xs hxs hF6 hb6
                  have hb06 := hb2.trans (hb6.mono hb2.size)
                  have hTr6 : TblAt w6 g At L ct := ⟨hTr.blk.below' hb6, hTr.rd.below hb6, hTr.cap⟩
                  have hgt := get_any g At ct L f.k w6 hTr6 (fun q hq => (hLok q hq).below hb06) (by omega)
                  rw [hget] at hgt
                  have hgt : Calls Try.prog 38 #[.pointer (some ⟨g, 0, none⟩), .string f.k] w6 fun e w' => Below w6.heap.size w6 w' ∧ ∃ A' c', e = .returned (.tuple #[.agg #[.string f2.k, .int .u64 (f2.s : Nat), .slice A' f2.l.length c'], .bool true]) ∧ w'.ownsRow w6.heap.size 5 1 (.slice A' f2.l.length c') f2.l.length (byts f2.l) := hgt
                  obtain ⟨la', hla, c0, _, _⟩ := facts_at (hr5.below hb06) j hlt
                  have hla := Option.some.inj hla
                  subst hla
                  have hlj : l[j]'hlt = f := by
                    have h1 := List.getElem?_eq_getElem hlt
                    rw [hf] at h1
                    exact (Option.some.inj h1).symm
                  rw [hlj] at c0
                  go_wp2_with fail
                  refine hgt.mono ?_
                  rintro e w7 ⟨hb7, A7, c7, rfl, ho7⟩
                  have hx67 : Below w6.heap.size w6 (w7.alloc (.cells #[.string f2.k, .int .u64 (f2.s : Nat), .slice A7 f2.l.length c7] 71)) := hb7.trans (((Below.refl w7.heap.size w7).alloc (Nat.le_refl _) _).mono hb7.size)
                  have hbW := hb06.trans (hx67.mono hb06.size)
                  go_upto_region 28 with fail
                  have hf2 : f2 ∈ L := List.mem_of_mem_drop (List.mem_of_mem_take (List.mem_of_getElem? h02))
                  have hf2o := hLok f2 hf2
                  have hyo : FM.ok ⟨f2.k, f2.s, A7, c7, f2.l⟩ w7 := ⟨Rd.of_own ho7, (own_cap ho7).1, hf2o.few, hf2o.seq, hf2o.key⟩
                  have hW7 : Below w7.heap.size w7 (w7.alloc (.cells #[.string f2.k, .int .u64 (f2.s : Nat), .slice A7 f2.l.length c7] 71)) := (Below.refl w7.heap.size w7).alloc (Nat.le_refl _) _
                  have hBy : Blk (w7.alloc (.cells #[.string f2.k, .int .u64 (f2.s : Nat), .slice A7 f2.l.length c7] 71)) w7.heap.size 71 (FM.cells ⟨f2.k, f2.s, A7, c7, f2.l⟩).toArray := Blk.new _ _ _
                  have hxne : xs ≠ [] := fun e => hne (by rw [e] at hxs; exact List.map_eq_nil_iff.1 hxs.symm)
                  have hz0 : 0 < xs.length := List.length_pos_iff.2 hxne
                  have hxln : xs.length ≤ 200 := by
                    have h1 := congrArg List.length hxs
                    have h2 := rngF_le L f.k k1
                    simp only [List.length_map] at h1
                    omega
                  have hrd6 := Rd.of_own hF6.own
                  obtain ⟨xa, rfl⟩ : ∃ xa, A1 = some xa := by
                    obtain ⟨ad, e, _⟩ := hrd6.at_ (k := 0) (by rw [fcells_length]; omega)
                    exact ⟨ad, e⟩
                  obtain ⟨z, hz⟩ : ∃ z, xs.length = z + 1 := ⟨xs.length - 1, by omega⟩
                  have hzz : z < xs.length := by omega
                  obtain ⟨h0L, h0k, h0v⟩ := keys_same hxs 0 hz0
                  obtain ⟨hzL, hzk, _⟩ := keys_same hxs z hzz
                  have e0 : (xs[0]'hz0).k = f.k := strB_inj (h0k.trans (hall _ (List.getElem_mem h0L)))
                  have ez : (xs[z]'hzz).k = f.k := strB_inj (hzk.trans (hall _ (List.getElem_mem hzL)))
                  have ev : (xs[0]'hz0).fv = FM.fv ⟨f2.k, f2.s, A7, c7, f2.l⟩ := by
                    rw [h0v]
                    have h1 := h02
                    rw [List.getElem?_eq_getElem h0L] at h1
                    rw [Option.some.inj h1]
                    rfl
                  have hx0 := (hF6.ok _ (List.getElem_mem hz0)).below hx67
                  have hy0 := hyo.below hW7
                  rw [hz]
                  refine regFr28 (y := ⟨f2.k, f2.s, A7, c7, f2.l⟩) (k := f.k) (hr5.below hbW).drew hf hlt (hrd6.below hx67).drew (List.getElem?_eq_getElem hz0) (List.getElem?_eq_getElem hzz) (by omega) hBy ⟨hx0.rd, hx0.cap, hx0.few, hx0.seq, hx0.key⟩ ⟨hy0.rd, hy0.cap, hy0.few, hy0.seq, hy0.key⟩ ev e0 ez rfl ?_
                  intro w8 _ _ _ _ _ _ _ _ _ _ _ _ _ _ _ _ _ _ _ _ _ _ _ _ _ _ _ _ _ _ _ _ _ _ _ _ _ _ _ _ _ hb8
                  have hc8 := hb6.trans ((hx67.trans (hb8.mono hx67.size)).mono hb6.size)
                  go_wp2_with fail
                  go_roundg (l.length - (j + 1))
                  case measure => omega
                  case rel => exact ⟨j + 1, S2, sA2, sc2, rfl, by omega, by go_num, rfl, hS2.below hc8, hSm2, hb2.trans (hc8.mono hb2.size)⟩
                · obtain rfl : j = l.length := by omega
                  have r2 : ¬ (l.length : Int) < (l.length : Int) := by omega
                  rw [Nat.max_eq_right (by have := congrArg List.length hL; simp only [List.length_map] at this; omega), List.take_of_length_le (by simp)] at hSm
                  have hsr := sameRows_any sA A sc c S l wr (Rd.of_own hS.own) (hr5.below hb) hS.ok (fun f hf => (hok5 f hf).below hb) (by omega)
                  rw [decide_eq_true hSm] at hsr
                  clear hSm
                  go_wp2_with fail
                  refine hsr.mono ?_
                  rintro e w8 ⟨rfl, hb8⟩
                  go_wp2_with fail
                  go_ret
                  exact ⟨rfl, hbw.trans (hb8.mono hbw.size)⟩
        · have k1 : ((er : Int) != 0) = true := by simpa using her
          go_wp2_with fail
          go_ret
          exact ⟨rfl, hb04⟩
end Go.Proofs.Ytadgaphgomagkaa
