/- The law of fronts: the walk. -/
import Derived.Test.YtppfjdohajomoaaZx
namespace Go.Proofs.Ytppfjdohajomoaa
open Go.RowKit
set_option maxHeartbeats 4000000
set_option maxRecDepth 100000

theorem zoneFronts_any (w : World) (A A2 : Option Addr) (c c2 : Nat) (l p : List Int) (flush : Int) (hl : Rd w A (ints l)) (hx : ∀ x ∈ l, -9223372036854775808 ≤ x ∧ x ≤ 9223372036854775807) (hp : Rd w A2 (ints p)) (hpc : p.length ≤ c2) (hpx : ∀ x ∈ p, -9223372036854775808 ≤ x ∧ x ≤ 9223372036854775807) :
    Calls Try.prog 10 #[.slice A l.length c, .int .i64 flush, .slice A2 p.length c2] w fun e w' => e = .returned (.bool true) ∧ Below w.heap.size w w' := by
  have hmk := run_mk32
  by_cases hL : 200 < l.length ∨ 100 < p.length
  · by_cases hL1 : 200 < l.length
    · have k1 : (200 : Int) < (l.length : Int) := by omega
      clear hL
      go_enter Try.func10, Try.ntmps10
      go_wp2_with fail
      refine (known3_law w).mono ?_
      rintro e w0 ⟨rfl, hb0⟩
      go_wp2
      go_ret
      exact ⟨rfl, hb0⟩
    · have k1 : ¬ (200 : Int) < (l.length : Int) := by omega
      have k2 : (100 : Int) < (p.length : Int) := by omega
      clear hL
      go_enter Try.func10, Try.ntmps10
      go_wp2_with fail
      refine (known3_law w).mono ?_
      rintro e w0 ⟨rfl, hb0⟩
      go_wp2
      go_ret
      exact ⟨rfl, hb0⟩
  have k1 : ¬ (200 : Int) < (l.length : Int) := by omega
  have k2 : ¬ (100 : Int) < (p.length : Int) := by omega
  go_enter Try.func10, Try.ntmps10
  go_wp2_with fail
  refine (known3_law w).mono ?_
  rintro e w0 ⟨rfl, hb0⟩
  go_wp2_with fail
  refine (pw_none _).mono ?_
  rintro e w1 ⟨rfl, hp1, hb1⟩
  go_wp2_with fail
  refine (pw_new hp1 4 300 32 (by decide) (by decide) (by decide) (by decide) (by decide) (by decide) (by decide)).mono ?_
  rintro e w2 ⟨D, rfl, hp2, hc2⟩
  go_wp2_with fail
  have hP0 : Pow ((w2.alloc (.cells #[.slice none 0 0, .slice none 0 0, .slice none 0 0, .slice none 0 0] 77)).alloc (.cells #[.int .i64 0, .int .i64 0, .int .i64 0, .int .i64 0] 78)) w0.heap.size w0.heap.size (sOf D 0 ((List.replicate 4 (⟨none, 0, []⟩ : Sb)).map Sb.l) [0, 0, 0, 0]) (fun _ => False) := (hp2.alloc _).alloc _
  have hB0 := ((hc2.after hb1 hb1.size).alloc (hc2.after hb1 hb1.size).size (.cells #[.slice none 0 0, .slice none 0 0, .slice none 0 0, .slice none 0 0] 77))
  have hB1 := hB0.alloc hB0.size (.cells #[.int .i64 0, .int .i64 0, .int .i64 0, .int .i64 0] 78)
  have hR0 : Rows4 ((w2.alloc (.cells #[.slice none 0 0, .slice none 0 0, .slice none 0 0, .slice none 0 0] 77)).alloc (.cells #[.int .i64 0, .int .i64 0, .int .i64 0, .int .i64 0] 78)) w0.heap.size w2.heap.size (w2.heap.size + 1) (List.replicate 4 (⟨none, 0, []⟩ : Sb)) [0, 0, 0, 0] (fun _ => False) := by
    have hs2 := (hc2.after hb1 hb1.size).size
    refine ⟨rfl, rfl, (Blk.new w2 77 _).alloc _, ?_, ⟨hs2, by omega⟩, fun i hi => ?_, fun i j hi hj hij a b ha => ?_, fun i hi ad e => ?_, fun k hk => hk.elim⟩
    · have := Blk.new (w2.alloc (.cells #[.slice none 0 0, .slice none 0 0, .slice none 0 0, .slice none 0 0] 77)) 78 #[.int .i64 0, .int .i64 0, .int .i64 0, .int .i64 0]
      simpa using this
    · simp only [List.getElem_replicate]
      exact World.ownsRow_nil _ _ _ _
    · rw [List.getElem_replicate] at ha; cases ha
    · rw [List.getElem_replicate] at e; cases e
  generalize hgw : (w2.alloc (.cells #[.slice none 0 0, .slice none 0 0, .slice none 0 0, .slice none 0 0] 77)).alloc (.cells #[.int .i64 0, .int .i64 0, .int .i64 0, .int .i64 0] 78) = w3 at *
  clear hgw hB0
  generalize w2.heap.size = g at *
  clear hp2 hc2 hp1 hb1
  go_loopg [12] l.length (fun m s12 wr => ∃ (i nw : Nat) (rows : List Sb) (fl : List Nat) (F : Nat → Prop), m = l.length - i ∧ s12 = .int .i64 (i : Nat) ∧ i ≤ l.length ∧ nw ≤ 2 * i ∧ Pow wr w0.heap.size w0.heap.size (sOf D nw (rows.map Sb.l) fl) F ∧ Rows4 wr w0.heap.size g (g + 1) rows fl F ∧
    (∀ (z : Nat) (r : Sb) (f : Nat), rows[z]? = some r → fl[z]? = some f → f ≤ r.l.length ∧ r.l.length ≤ i) ∧ Below w0.heap.size w0 wr ∧ ¬ F g ∧ ¬ F (g + 1))
  case atStart =>
    refine ⟨0, 0, _, _, _, rfl, rfl, by omega, by omega, hP0, hR0, fun z r f hr hf => ?_, hB1, fun h => h, fun h => h⟩
    obtain ⟨h1, rfl⟩ := List.getElem?_eq_some_iff.1 hr
    obtain ⟨h2, rfl⟩ := List.getElem?_eq_some_iff.1 hf
    simp only [List.getElem_replicate, List.length_nil]
    match z, h2 with
    | 0, _ => simp
    | 1, _ => simp
    | 2, _ => simp
    | 3, _ => simp
  case round =>
    clear hP0 hR0 hB1
    obtain ⟨i, nw, rows, fl, F, rfl, rfl, hi, hnw, hP, hR, hlen, hb, hFg, hFh⟩ := hrel
    by_cases hil : i < l.length
    · have hbw : Below w.heap.size w wr := hb0.trans (hb.mono hb0.size)
      obtain ⟨la, rfl, _, hcell⟩ := (hl.below hbw).at_ (k := i) (by simpa [ints] using hil)
      simp only [ints, List.getElem_map] at hcell
      have hxi := hx _ (List.getElem_mem hil)
      have j1 : (i : Int) < (l.length : Int) := by omega
      generalize l[i] = x at *
      obtain ⟨r, hr⟩ : ∃ r, x.tmod 4 = r := ⟨_, rfl⟩
      have hr1 := Int.tmod_lt_of_pos x (show (0 : Int) < 4 by decide)
      have hr2 := Int.lt_tmod_of_pos x (show (0 : Int) < 4 by decide)
      rw [hr] at hr1 hr2
      have hwr : wrap64 (-r) = -r := IntWalk.wrap64_in _ (by omega)
      go_upto_if 56 with fail
      go_cut [13] (fun s13 wx => ∃ z : Nat, z < 4 ∧ s13 = .int .i64 (z : Nat) ∧ wx = wr)
      case first =>
        go_wp2
        · go_meet
          exact ⟨(-r).toNat, by omega, by congr 1; omega, rfl⟩
        · go_meet
          exact ⟨r.toNat, by omega, by congr 1; omega, rfl⟩
      case rest =>
        obtain ⟨z, hz, rfl, rfl⟩ := hcut
        clear hr hr1 hr2 hwr hcell hxi
        go_wp2_with fail
        obtain ⟨b, hbv⟩ : ∃ b : UInt8, Value.int .u8 (i : Nat) = byt b := ⟨UInt8.ofNat i, by simp [byt]; omega⟩
        have hzc : zc32.setIfInBounds 0 (.int .u8 (i : Nat)) = (byts (pgOf b)).toArray := by rw [hbv]; rfl
        rw [hzc]
        have hrz : z < rows.length := by rw [hR.len]; exact hz
        have hfz : z < fl.length := by rw [hR.lenf]; exact hz
        have hlz := hlen z rows[z] fl[z] (List.getElem?_eq_getElem hrz) (List.getElem?_eq_getElem hfz)
        have hpg : PgOk (wc.alloc (.cells (byts (pgOf b)).toArray 5)) ⟨some ⟨wc.heap.size, 0, none⟩, 32, pgOf b⟩ := by
          refine ⟨Rd.lay wc _ _, by simp only [pgOf_len]; omega, fun ad e => ?_⟩
          injection e with e
          subst e
          exact (Blk.new wc 5 _).has
        have hap := sOf_append D nw (all := rows.map Sb.l) (fl := fl) (by simp [hR.len]) hR.lenf z hz (by simp only [List.getElem_map]; omega) b
        refine (at_append (hP.alloc _) 0 rfl (z : Nat) _ _ (pgOf b) hpg (pgOf_len b) (by show nw ≤ _; omega) hap).mono ?_
        rintro e w4 ⟨rfl, hP4, hc4⟩
        simp only [List.getElem_map] at hP4
        have hR4 := (hR.below ((Below.refl _ _).alloc (Nat.le_refl _) (.cells (byts (pgOf b)).toArray 5))).keepX hc4
        have hb4 := hc4.after (hb.alloc hb.size (.cells (byts (pgOf b)).toArray 5)) (by have := hb.size; simp; omega)
        generalize hF4 : FN F (wc.alloc (.cells (byts (pgOf b)).toArray 5)) w4 = F4 at *
        have own4 := hR4.own z hrz
        have g4 := hR4.blk.cell z
        rw [show ((rows.map Sb.val).toArray[z]?) = some (.slice rows[z].A rows[z].l.length rows[z].c) from by simp [hrz, Sb.val]] at g4
        have j3 : (z : Int) < 4 := by omega
        have hR4a := hR4.below ((Below.refl _ _).alloc (Nat.le_refl _) (.cells #[.int .u8 (i : Nat)] 5))
        have hP4' : Pow w4 w0.heap.size w0.heap.size (sOf D (nw + 1) ((rows.map Sb.l).set z (rows[z].l ++ [b])) fl) F4 := hP4
        have hP4a := hP4'.alloc (.cells #[.int .u8 (i : Nat)] 5)
        have hb4a := hb4.alloc hb4.size (.cells #[.int .u8 (i : Nat)] 5)
        have hFg4 : ¬ F4 g := hF4 ▸ FN.not hFg (by have := hR.blk.lt; simp; omega)
        have hFh4 : ¬ F4 (g + 1) := hF4 ▸ FN.not hFh (by have := hR.blf.lt; simp; omega)
        have hrd : Rd (w4.alloc (.cells #[.int .u8 (i : Nat)] 5)) (some ⟨w4.heap.size, 0, none⟩) [.int .u8 (i : Nat)] := Rd.lay w4 [.int .u8 (i : Nat)] _
        have HBV := Lib.hid hbv
        have hbs := hb4.size
        clear hR4 hP4 hP4' hb4 hc4 hP hR hb hpg hap hzc hbv
        have hblk : ∀ w5 : World, Chg (fun k => ∃ ad, rows[z].A = some ad ∧ k = ad.block) (w4.alloc (.cells #[.int .u8 (i : Nat)] 5)) w5 → Blk w5 g 77 (rows.map Sb.val).toArray := fun w5 hc5 =>
          hR4a.blk.keep hc5 (by rintro ⟨ad, e, e2⟩; exact ((own_has (A := rows[z].A) (hR4a.own z hrz) ad e).ne hR4a.blk.has (by decide)) e2.symm)
        go_upto_if 80 with (at_builtin; refine wpList_apz rfl _ _ rfl slB w0.heap.size rows[z].A rows[z].l.length rows[z].c (byts rows[z].l) rfl (Ap.alloc (.inl own4) _) (some ⟨w4.heap.size, 0, none⟩) (.int .u8 (i : Nat)) rfl hrd rfl (by unfold maxLen; omega) (by omega) (by simp; omega) ?_; intro A5 c5 w5 ho5 hc5 hA5; have f5 : w5.frozen? ⟨g, z, none⟩ = false := (hblk w5 hc5).frozen z; have y5 : w5.cell? ⟨g, z, none⟩ = some (.slice rows[z].A rows[z].l.length rows[z].c) := ((hblk w5 hc5).cell z).trans (by simp [hrz, Sb.val]))
        have hpush := push_all hR4a hP4a hb4a (Nat.le_refl _) hFg4 hrz A5 c5 b (by rw [← HBV.out]; exact ho5) hc5 hA5
        obtain ⟨hR5, hP5, hb5⟩ := hpush
        have hlen5 : ∀ (z' : Nat) (r : Sb), (rows.set z ⟨A5, c5, rows[z].l ++ [b]⟩)[z']? = some r → r.l.length ≤ i + 1 ∧ ∀ f, fl[z']? = some f → f ≤ r.l.length := by
          intro z' r hr'
          by_cases e : z = z'
          · subst e
            rw [List.getElem?_set_self hrz] at hr'
            injection hr' with hr'
            subst hr'
            refine ⟨by simp; omega, fun f hf => ?_⟩
            rw [List.getElem?_eq_getElem hfz] at hf
            injection hf with hf
            simp; omega
          · rw [List.getElem?_set_ne e] at hr'
            have hzl := (List.getElem?_eq_some_iff.1 hr').1
            have hz' : z' < fl.length := by rw [hR4a.lenf, ← hR4a.len]; exact hzl
            have := hlen z' r fl[z'] hr' (List.getElem?_eq_getElem hz')
            refine ⟨by omega, fun f hf => ?_⟩
            rw [List.getElem?_eq_getElem hz'] at hf
            injection hf with hf
            omega
        rw [show (rows.map Sb.l).set z (rows[z].l ++ [b]) = (rows.set z ⟨A5, c5, rows[z].l ++ [b]⟩).map Sb.l from by rw [List.map_set]] at hP5
        generalize rows.set z ⟨A5, c5, rows[z].l ++ [b]⟩ = rows5 at *
        generalize w5.setCell ⟨g, z, none⟩ (.slice A5 (rows[z].l.length + 1) c5) = w6 at *
        clear hblk hrd hP4a hR4a hb4a own4 g4 hlen HBV hF4 hc5 ho5 hA5 f5 y5 hlz
        by_cases hif : (i : Int) = flush
        · have t1 : ((i : Int) == flush) = true := by simp [hif]
          have hfl := at_flush hP5 0 rfl (by show nw + 1 ≤ _; omega) (sOf_flush D (nw + 1) (all := rows5.map Sb.l) (fl := fl) (by simp [hR5.len, hR5.lenf]))
          clear hif hP5
          go_wp2_with fail
          refine hfl.mono ?_
          rintro e w7 ⟨rfl, hP7, hc7⟩
          have hR7 := hR5.keepF hc7
          have hb7 := hc7.after hb5 (by have := hb5.size; omega)
          clear hfl hR5 hb5 hc7
          generalize hL : (rows5.map Sb.l).map List.length = lens at *
          go_wp2_with fail
          go_loopg [15] 4 (fun m s15 wr => ∃ (k : Nat) (fk : List Nat), m = 4 - k ∧ k ≤ 4 ∧ s15 = .int .i64 (k : Nat) ∧ (∀ j, j < k → fk[j]? = lens[j]?) ∧ Rows4 wr w0.heap.size g (g + 1) rows5 fk F4 ∧ Pow wr w0.heap.size w0.heap.size (sOf D (nw + 1 + 1) (rows5.map Sb.l) lens) F4 ∧ Below w0.heap.size w0 wr)
          case atStart => exact ⟨0, fl, rfl, by omega, rfl, fun j hj => absurd hj (Nat.not_lt_zero _), hR7, hP7, hb7⟩
          case round =>
            clear hR7 hP7 hb7
            obtain ⟨k, fk, rfl, hk, rfl, hfk, hRk, hPk, hbk⟩ := hrel
            by_cases hk4 : k < 4
            · have r1 : (k : Int) < 4 := by omega
              have hkr : k < rows5.length := by rw [hRk.len]; exact hk4
              have g4 := hRk.blk.cell k
              rw [show ((rows5.map Sb.val).toArray[k]?) = some (.slice rows5[k].A rows5[k].l.length rows5[k].c) from by simp [hkr, Sb.val]] at g4
              have hkf : k < fk.length := by rw [hRk.lenf]; exact hk4
              have h4 := hRk.blf.cell k
              rw [show ((fk.map fun n => Value.int .i64 (n : Nat)).toArray[k]?) = some (.int .i64 (fk[k] : Nat)) from by simp [hkf]] at h4
              have f4 := hRk.blf.frozen k
              have hset := hRk.setfl k rows5[k].l.length
              have hPset := hPk.setAt hRk.blf.has notT78 (by decide) hFh4 k (.int .i64 (rows5[k].l.length : Nat))
              have hbset := below_set hbk (Nat.le_refl _) hRk.low.2 k (.int .i64 (rows5[k].l.length : Nat))
              have hlk : lens[k]? = some rows5[k].l.length := by rw [← hL]; simp [hkr]
              go_wp2_with fail
              go_roundg (4 - (k + 1))
              case measure => omega
              case rel =>
                refine ⟨k + 1, fk.set k rows5[k].l.length, rfl, by omega, by go_num, fun j hj => ?_, hset, hPset, hbset⟩
                by_cases e : k = j
                · subst e
                  rw [List.getElem?_set_self hkf, hlk]
                · rw [List.getElem?_set_ne e]
                  exact hfk j (by omega)
            · obtain rfl : k = 4 := by omega
              have e : fk = lens := by
                apply List.ext_getElem?
                intro j
                by_cases hj : j < 4
                · exact hfk j hj
                · have := hRk.lenf
                  have hll : lens.length = 4 := by rw [← hL]; simp [hRk.len]
                  rw [List.getElem?_eq_none (by omega), List.getElem?_eq_none (by omega)]
              subst e
              go_wp2_with fail
              go_roundg (l.length - (i + 1))
              case measure => omega
              case rel =>
                refine ⟨i + 1, nw + 1 + 1, rows5, _, F4, rfl, by go_num, by omega, by omega, hPk, hRk, fun z r f h1 h2 => ⟨?_, (hlen5 z r h1).1⟩, hbk, hFg4, hFh4⟩
                rw [← hL] at h2
                simp only [List.getElem?_map, h1, Option.map_some, Option.some.injEq] at h2
                omega
        · have t1 : ((i : Int) == flush) = false := by simp [hif]
          clear hif
          go_wp2_with fail
          go_roundg (l.length - (i + 1))
          case measure => omega
          case rel => exact ⟨i + 1, nw + 1, rows5, fl, F4, rfl, by go_num, by omega, by omega, hP5, hR5, fun z r f h1 h2 => ⟨(hlen5 z r h1).2 f h2, (hlen5 z r h1).1⟩, hb5, hFg4, hFh4⟩
    · obtain rfl : i = l.length := by omega
      have hbw : Below w.heap.size w wr := hb0.trans (hb.mono hb0.size)
      have hpr := hp.below hbw
      have hcutc := pw_cut hP 0 _ rfl A2 c2 p hpr hpc (fun hne ad e => by
        obtain ⟨a2, e2, hlt, _⟩ := hp.at_ (k := 0) (by cases p with
          | nil => exact absurd rfl hne
          | cons a t => simp [ints])
        rw [e] at e2; injection e2 with e2; subst e2
        have := hb0.size; omega) (fun x h => (hpx x h).2) (by omega)
      have j1 : ¬ (l.length : Int) < (l.length : Int) := by omega
      clear hP
      go_wp2_with fail
      refine hcutc.mono ?_
      rintro e w7 ⟨rfl, hP7, hc7⟩
      have hR7 := hR.keepF hc7
      have hb7 := hc7.after hb (by have := hb.size; omega)
      clear hcutc hc7 hR hb hbw hpr
      have hzs : ∀ z (hz : z < rows.length), ∃ n z' f, fl[z]? = some f ∧ (cutP p (zOf (rows.map Sb.l) fl))[z]? = some z' ∧ f ≤ n ∧ n ≤ rows[z].l.length ∧ z'.1 = (rows[z].l.map pgOf).take n := by
        intro z hz
        have hz4 : z < fl.length := by rw [hR7.lenf, ← hR7.len]; exact hz
        have hzz := zOf_get (all := rows.map Sb.l) (fl := fl) z (by simpa using hz) hz4
        simp only [List.getElem_map] at hzz
        obtain ⟨n, z', h1, h2, h3, h4⟩ := cutP_front p _ z _ hzz (by
          have := hlen z rows[z] fl[z] (List.getElem?_eq_getElem hz) (List.getElem?_eq_getElem hz4)
          simp; omega)
        exact ⟨n, z', fl[z], List.getElem?_eq_getElem hz4, h1, h2, by simpa using h3, h4⟩
      have hs7 : ({ sOf D nw (rows.map Sb.l) fl with ds := (sOf D nw (rows.map Sb.l) fl).ds.set 0 (DV.cut p ⟨D, 300, 32, false, zOf (rows.map Sb.l) fl⟩) } : St) = ⟨false, 0, [], nw, [⟨D, 300, 32, false, cutP p (zOf (rows.map Sb.l) fl)⟩]⟩ := rfl
      have hP8 : Pow w7 w0.heap.size w0.heap.size ⟨false, 0, [], nw, [⟨D, 300, 32, false, cutP p (zOf (rows.map Sb.l) fl)⟩]⟩ F := hP7
      clear hP7 hs7
      generalize cutP p (zOf (rows.map Sb.l) fl) = zs at *
      go_wp2_with fail
      go_loopg [16] 4 (fun m s16 wr => ∃ (z : Nat), m = 4 - z ∧ z ≤ 4 ∧ s16 = .int .i64 (z : Nat) ∧ Rows4 wr w0.heap.size g (g + 1) rows fl F ∧ Pow wr w0.heap.size w0.heap.size ⟨false, 0, [], nw, [⟨D, 300, 32, false, zs⟩]⟩ F ∧ Below w0.heap.size w0 wr)
      case atStart => exact ⟨0, rfl, by omega, rfl, hR7, hP8, hb7⟩
      case round =>
        clear hR7 hP8 hb7
        obtain ⟨z, rfl, hz, rfl, hR, hP, hb⟩ := hrel
        by_cases hz4 : z < 4
        · have hzr : z < rows.length := by rw [hR.len]; exact hz4
          have r1 : (z : Int) < 4 := by omega
          obtain ⟨n, z', f, hf, hz', hfn, hnr, hz1⟩ := hzs z hzr
          have hn : z'.1.length = n := by rw [hz1]; simp; omega
          have hpo := at_pointer hP 0 rfl (z : Nat) (pointerR_front hz')
          rw [hn] at hpo
          have hfz : z < fl.length := (List.getElem?_eq_some_iff.1 hf).1
          have g4 : ∀ W, Rows4 W w0.heap.size g (g + 1) rows fl F → W.cell? ⟨g, z, none⟩ = some (.slice rows[z].A rows[z].l.length rows[z].c) := fun W h => (h.blk.cell z).trans (by simp [hzr, Sb.val])
          have g5 := g4 _ hR
          have h4 := hR.blf.cell z
          rw [show ((fl.map fun n => Value.int .i64 (n : Nat)).toArray[z]?) = some (.int .i64 (f : Nat)) from by simp [hf]] at h4
          have hn200 : n ≤ 200 := by have := (hlen z rows[z] f (List.getElem?_eq_getElem hzr) hf).2; omega
          have t1 : decide (n < f) = false := by simp; omega
          have t2 : decide (rows[z].l.length < n) = false := by simp; omega
          clear hzs
          go_wp2_with fail
          refine hpo.mono ?_
          rintro e w8 ⟨rfl, rfl⟩
          go_wp2_with fail
          go_loopg [19] n (fun m s19 wr => ∃ (k : Nat), m = n - k ∧ k ≤ n ∧ s19 = .int .i64 (k : Nat) ∧ Rows4 wr w0.heap.size g (g + 1) rows fl F ∧ Pow wr w0.heap.size w0.heap.size ⟨false, 0, [], nw, [⟨D, 300, 32, false, zs⟩]⟩ F ∧ Below w0.heap.size w0 wr)
          case atStart => exact ⟨0, rfl, by omega, rfl, hR, hP, hb⟩
          case round =>
            clear hR hP hb g5 h4 hpo
            obtain ⟨k, rfl, hk, rfl, hR, hP, hb⟩ := hrel
            by_cases hkn : k < n
            · have r2 : (k : Int) < (n : Int) := by omega
              have hkr : k < rows[z].l.length := by omega
              have hl : z'.1[k]? = some (pgOf rows[z].l[k]) := by
                rw [hz1, List.getElem?_take, if_pos hkn]
                simp [hkr]
              have hrdc := pw_read hP 0 _ rfl z k z' hz' _ hl (by rw [pgOf_len]; decide) rfl rfl
              rw [pgOf_len] at hrdc
              clear hl
              go_wp2_with fail
              refine hrdc.mono ?_
              rintro e w8 ⟨A8, c8, rfl, ho8, hb8⟩
              have hR8 := hR.below hb8
              have hP8 := hP.below hb8
              have hb8' := hb.trans (hb8.mono hb.size)
              obtain ⟨a8, rfl, hlt8, hc8⟩ := (Rd.of_own ho8).at_ (k := 0) (by simp [pgOf, byts])
              obtain ⟨ar, har, hltr, hcr⟩ := (Rd.of_own (A := rows[z].A) (hR8.own z hzr)).at_ (k := k) (by rw [byts_length]; exact hkr)
              have g8 := g4 _ hR8
              rw [har] at g8
              simp only [byts, List.getElem_map, byt, pgOf, List.map_cons, List.getElem_cons_zero] at hc8 hcr
              have r3 : (k : Int) < (rows[z].l.length : Int) := by omega
              clear ho8 hrdc hR hP hb hb8 t1 t2 har hfn hnr hz1 g4
              generalize rows[z].l[k].toNat = bb at *
              have hc9 : w8.cell? a8 = some (.int .u8 (bb : Nat)) := by rw [← hc8]; congr 1
              clear hc8
              go_wp2_with fail
              go_quiet (fail)
              go_wp2_with fail
              go_roundg (n - (k + 1))
              case measure => omega
              case rel => exact ⟨k + 1, rfl, by omega, by go_num, hR8.below (below_drewN (Below.refl _ _) _), hP8.drewN _, below_drewN hb8' _⟩
            · have r2 : ¬ (k : Int) < (n : Int) := by omega
              clear t1 t2 hfn hnr
              go_wp2_with fail
              go_roundg (4 - (z + 1))
              case measure => omega
              case rel => exact ⟨z + 1, rfl, by omega, by go_num, hR, hP, hb⟩
        · have r1 : ¬ (z : Int) < 4 := by omega
          go_wp2
          go_ret
          exact ⟨rfl, hb0.trans (hb.mono hb0.size)⟩
end Go.Proofs.Ytppfjdohajomoaa
