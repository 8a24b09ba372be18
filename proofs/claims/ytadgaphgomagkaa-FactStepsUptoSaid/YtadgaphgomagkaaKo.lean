/- Rows of the call's own that lie apart; the reference's numbers and bytes onto them. -/
import Derived.Test.YtadgaphgomagkaaKk
namespace Go.Proofs.Ytadgaphgomagkaa
open Go.RowKit
set_option maxHeartbeats 2000000
set_option maxRecDepth 100000

/-- two rows lie apart -/
def Apart (v v2 : Value) : Prop := ∀ g, v2.ownBlock = some g → v.ownBlock ≠ some g
theorem Apart.symm {v v2 : Value} (h : Apart v v2) : Apart v2 v := fun g h1 h2 => h g h2 h1
theorem Apart.nil (v : Value) : Apart v (.slice none 0 0) := fun g h => by simp [Value.ownBlock] at h
theorem own_grew {w w' : World} {b2 : Nat} {e2 : TypeId} {s2 n2 : Nat} {v v' v2 : Value} {xs2 : List Value} (h : w.ownsRow b2 e2 s2 v2 n2 xs2) (hg : Grew w w' v v') (ha : Apart v v2) : w'.ownsRow b2 e2 s2 v2 n2 xs2 := by
  refine ⟨h.1, ?_⟩
  rcases h.2 with h0 | ⟨g, cap, cur, rfl, hbg, hgb, r⟩
  · exact .inl h0
  · exact .inr ⟨g, cap, cur, rfl, hbg, (hg.grown.block g (Array.getElem?_eq_some_iff.1 hgb).1 (fun e => ha g rfl e.symm)).trans hgb, r⟩
theorem Apart.grew {w w' : World} {b2 : Nat} {e2 : TypeId} {s2 n2 : Nat} {v v' v2 : Value} {xs2 : List Value} (ha : Apart v v2) (h : w.ownsRow b2 e2 s2 v2 n2 xs2) (hg : Grew w w' v v') : Apart v' v2 := fun g h1 h2 => by
  rcases hg.loc g h2 with h3 | h3
  · exact ha g h1 h3
  · have := (h.lt g h1).2
    omega
/-- what is made later lies apart -/
theorem Apart.fresh {w : World} {b b2 : Nat} {e e2 : TypeId} {s s2 n n2 : Nat} {v v2 : Value} {xs xs2 : List Value} {w2 : World} (h : w.ownsRow b e s v n xs) (h2 : w2.ownsRow b2 e2 s2 v2 n2 xs2) (hb : w.heap.size ≤ b2) : Apart v v2 := fun g h1 h3 => by
  have := (h.lt g h3).2
  have := (h2.lt g h1).1
  omega
theorem rbytes_any (A B : Option Addr) (c d m base : Nat) (xs : List Value) (x : List UInt8) (w : World) (hown : w.ownsRow base 5 1 (.slice A m c) m xs) (hb : base ≤ w.heap.size) (hr : Rd w B (byts x)) (hbl : x ≠ [] → ∀ ad, B = some ad → (Value.slice A m c).ownBlock ≠ some ad.block)
    (hx : x.length ≤ 140737488351232) (hsum : m + 10 + x.length ≤ 140737488355328) :
    Calls Try.prog 66 #[.slice A m c, .slice B x.length d] w fun e w' => ∃ A' c', e = .returned (.slice A' (m + (lenB x).length) c') ∧
      w'.ownsRow base 5 1 (.slice A' (m + (lenB x).length) c') (m + (lenB x).length) (xs ++ byts (lenB x)) ∧ Grew w w' (.slice A m c) (.slice A' (m + (lenB x).length) c') := by
  have hnum := refNumber_any A c x.length m base xs w hown hb (by omega) (by omega)
  have hN10 : (numB x.length).length ≤ 10 := (numF_length 9 x.length).1
  have hLL : (lenB x).length = (numB x.length).length + x.length := by simp [lenB]
  have hLB : byts (lenB x) = byts (numB x.length) ++ byts x := by simp [lenB, byts]
  rw [hLL, hLB]
  clear hLL hLB
  have hk : ∀ w1 v', Grew w w1 (.slice A m c) v' → Rd w1 B (byts x) := fun w1 v' hg hn => (hr.grew hg (hbl (by intro e; subst e; exact hn rfl))) hn
  have HK := Lib.hid hk
  generalize numB x.length = N at *
  clear hk
  go_enter Try.func66, Try.ntmps66
  go_wp2_with (first
    | (go_at_call 67; refine hnum.mono ?_; rintro e w1 ⟨A1, c1, rfl, ho1, hg1⟩)
    | (at_builtin; refine wpList_app _ rfl _ _ rfl slB base (.slice A1 (m + N.length) c1) (m + N.length) (xs ++ byts N) rfl ho1 B x.length d (byts x) rfl (by rw [byts_length, Nat.mul_one]) (HK.out _ _ hg1) (byts_one _) (by unfold maxLen; omega) (by omega) (by have := hg1.grown.size; omega) ?_; intro A2 c2 w2 ho2 hg2))
  go_ret
  refine ⟨A2, c2, by rw [← Nat.add_assoc]; rfl, ?_, ?_⟩
  · rw [← Nat.add_assoc, ← List.append_assoc]; exact ho2
  · rw [← Nat.add_assoc]; exact hg1.trans hg2
theorem rbytesL_any (A B : Option Addr) (c d base : Nat) (l x : List UInt8) (n : Nat) (w : World) (hn : x.length = n) (hown : w.ownsRow base 5 1 (.slice A l.length c) l.length (byts l)) (hb : base ≤ w.heap.size) (hr : Rd w B (byts x)) (hbl : x ≠ [] → ∀ ad, B = some ad → (Value.slice A l.length c).ownBlock ≠ some ad.block) (hsum : l.length + 10 + x.length ≤ 140737488351232) :
    Calls Try.prog 66 #[.slice A l.length c, .slice B n d] w fun e w' => ∃ A' c', e = .returned (.slice A' (l ++ lenB x).length c') ∧
      w'.ownsRow base 5 1 (.slice A' (l ++ lenB x).length c') (l ++ lenB x).length (byts (l ++ lenB x)) ∧ Grew w w' (.slice A l.length c) (.slice A' (l ++ lenB x).length c') := by
  subst hn
  refine (rbytes_any A B c d l.length base (byts l) x w hown hb hr hbl (by omega) (by omega)).mono ?_
  rintro e w' ⟨A', c', rfl, ho, hg⟩
  have e1 : (l ++ lenB x).length = l.length + (lenB x).length := List.length_append
  have e2 : byts (l ++ lenB x) = byts l ++ byts (lenB x) := by simp [byts]
  rw [e1, e2]
  exact ⟨A', c', rfl, ho, hg⟩
theorem rnumL_any (A : Option Addr) (c v base : Nat) (l : List UInt8) (w : World) (hown : w.ownsRow base 5 1 (.slice A l.length c) l.length (byts l)) (hb : base ≤ w.heap.size) (hm : l.length + 10 ≤ 140737488355328) (hv : v < 18446744073709551616) :
    Calls Try.prog 67 #[.slice A l.length c, .int .u64 v] w fun e w' => ∃ A' c', e = .returned (.slice A' (l ++ numB v).length c') ∧
      w'.ownsRow base 5 1 (.slice A' (l ++ numB v).length c') (l ++ numB v).length (byts (l ++ numB v)) ∧ Grew w w' (.slice A l.length c) (.slice A' (l ++ numB v).length c') := by
  refine (refNumber_any A c v l.length base (byts l) w hown hb hm hv).mono ?_
  rintro e w' ⟨A', c', rfl, ho, hg⟩
  have e1 : (l ++ numB v).length = l.length + (numB v).length := List.length_append
  have e2 : byts (l ++ numB v) = byts l ++ byts (numB v) := by simp [byts]
  rw [e1, e2]
  exact ⟨A', c', rfl, ho, hg⟩
end Go.Proofs.Ytadgaphgomagkaa
/- The reference's tables are built. -/
namespace Go.Proofs.Ytadgaphgomagkaa
open Go.RowKit
set_option maxHeartbeats 8000000
set_option maxRecDepth 100000

theorem facts_some {w : World} {ad : Addr} {l : List FM} (hr : Rd w (some ad) (fcells l)) (i : Nat) (h : i < l.length) : w.cell? (ad.add (i * 3)) = some (.string l[i].k) ∧ w.cell? ⟨(ad.add (i * 3)).block, (ad.add (i * 3)).off + 1, none⟩ = some (.int .u64 (l[i].s : Nat)) ∧
    w.cell? ⟨(ad.add (i * 3)).block, (ad.add (i * 3)).off + 2, none⟩ = some (.slice l[i].A l[i].l.length l[i].c) := by
  obtain ⟨ad', e, h1⟩ := facts_at hr i h
  injection e with e
  subst e
  exact h1
/-- the loop's state in memory: three rows of the call's own -/
structure RefS (w0 w : World) (oA nA xA : Option Addr) (oc nc xc : Nat) (out now ix : List UInt8) : Prop where
  bel : Below w0.heap.size w0 w
  ro : w.ownsRow w0.heap.size 5 1 (.slice oA out.length oc) out.length (byts out)
  rn : w.ownsRow w0.heap.size 5 1 (.slice nA now.length nc) now.length (byts now)
  rx : w.ownsRow w0.heap.size 5 1 (.slice xA ix.length xc) ix.length (byts ix)
  on : Apart (.slice oA out.length oc) (.slice nA now.length nc)
  ox : Apart (.slice oA out.length oc) (.slice xA ix.length xc)
  nx : Apart (.slice nA now.length nc) (.slice xA ix.length xc)
section
variable {w0 w w1 : World} {oA nA xA A' : Option Addr} {oc nc xc c' : Nat} {out now ix new : List UInt8}
theorem RefS.next (h : RefS w0 w oA nA xA oc nc xc out now ix) (hb : Below w.heap.size w w1) : RefS w0 w1 oA nA xA oc nc xc out now ix :=
  ⟨h.bel.trans (hb.mono h.bel.size), own_below h.ro hb, own_below h.rn hb, own_below h.rx hb, h.on, h.ox, h.nx⟩
theorem RefS.setN (h : RefS w0 w oA nA xA oc nc xc out now ix) (ho : w1.ownsRow w0.heap.size 5 1 (.slice A' new.length c') new.length (byts new)) (hg : Grew w w1 (.slice nA now.length nc) (.slice A' new.length c')) : RefS w0 w1 oA A' xA oc c' xc out new ix :=
  ⟨h.bel.trans (hg.under h.rn (Nat.le_refl _) h.bel.size), own_grew h.ro hg h.on.symm, ho, own_grew h.rx hg h.nx, (h.on.symm.grew h.ro hg).symm, h.ox, h.nx.grew h.rx hg⟩
theorem RefS.setX (h : RefS w0 w oA nA xA oc nc xc out now ix) (ho : w1.ownsRow w0.heap.size 5 1 (.slice A' new.length c') new.length (byts new)) (hg : Grew w w1 (.slice xA ix.length xc) (.slice A' new.length c')) : RefS w0 w1 oA nA A' oc nc c' out now new :=
  ⟨h.bel.trans (hg.under h.rx (Nat.le_refl _) h.bel.size), own_grew h.ro hg h.ox.symm, own_grew h.rn hg h.nx.symm, ho, h.on, (h.ox.symm.grew h.ro hg).symm, (h.nx.symm.grew h.rn hg).symm⟩
theorem RefS.setO (h : RefS w0 w oA nA xA oc nc xc out now ix) (ho : w1.ownsRow w0.heap.size 5 1 (.slice A' new.length c') new.length (byts new)) (hg : Grew w w1 (.slice oA out.length oc) (.slice A' new.length c')) : RefS w0 w1 A' nA xA c' nc xc new now ix :=
  ⟨h.bel.trans (hg.under h.ro (Nat.le_refl _) h.bel.size), ho, own_grew h.rn hg h.on, own_grew h.rx hg h.ox, h.on.grew h.rn hg, h.ox.grew h.rx hg, h.nx⟩
theorem RefS.clearN (h : RefS w0 w oA nA xA oc nc xc out now ix) : RefS w0 w oA none xA oc 0 xc out [] ix :=
  ⟨h.bel, h.ro, World.ownsRow_nil _ _ _ _, h.rx, Apart.nil _, h.ox, (Apart.nil _).symm⟩
end
theorem rbuild_loop (w : World) (A : Option Addr) (c : Nat) (l : List FM) (block : Nat) (hr : Rd w A (fcells l)) (hok : ∀ f ∈ l, f.ok w) (hl : l.length ≤ 1048576) (hb : 1 ≤ block ∧ block ≤ 1048576) (hri : rightF l = true) (hlo : l.any longF = false) :
    Calls Try.prog 34 #[.slice A l.length c, .int .i64 (block : Nat)] w fun e w' => ∃ A' c', e = .returned (.tuple #[.slice A' (tabB l block).length c', .int .i64 0]) ∧ w'.ownsRow w.heap.size 5 1 (.slice A' (tabB l block).length c') (tabB l block).length (byts (tabB l block)) ∧ Below w.heap.size w w' := by
  have hrc := fun W h => refRight_any A c l W h hl
  rw [hri] at hrc
  have hnl : ∀ i, (h : i < l.length) → l[i].k.size ≤ 1024 ∧ l[i].l.length ≤ 1048576 := fun i h => by
    have := List.any_eq_false.1 hlo l[i] (List.getElem_mem h)
    simp [longF] at this
    omega
  have HT : Hid (tabB l block = (bld block l [] ⟨#[]⟩ [] []).1 ++ (sumB (bld block l [] ⟨#[]⟩ [] []).2 ++ footB (sumB (bld block l [] ⟨#[]⟩ [] []).2).length l.length)) := Lib.hid rfl
  generalize tabB l block = T at *
  generalize hbl : bld block l [] ⟨#[]⟩ [] [] = R at *
  have HB := Lib.hid hbl
  clear hbl hri hlo
  have b1 : ¬ (block : Int) < 1 := by omega
  have b2 : ¬ (1048576 : Int) < (block : Int) := by omega
  have b3 : ¬ (1048576 : Int) < (l.length : Int) := by omega
  go_enter Try.func34, Try.ntmps34
  go_wp2_with fail
  refine (hrc _ hr).mono ?_
  rintro e w2 ⟨rfl, hb02⟩
  clear hrc
  have hr2 := hr.below hb02
  have hok2 : ∀ f ∈ l, f.ok w2 := fun f hf => (hok f hf).below hb02
  clear b1 b2 hok
  go_wp2_with fail
  go_loopg [6] l.length (fun m s6 wr => ∃ k : Nat, m = l.length - k ∧ k ≤ l.length ∧ s6 = .int .i64 (k : Nat) ∧ w2 = wr)
  case atStart => exact ⟨0, by omega, by omega, rfl, rfl⟩
  case round =>
    obtain ⟨k, rfl, hk, rfl, rfl⟩ := hrel
    by_cases hlt : k < l.length
    · have r1 : (k : Int) < (l.length : Int) := by omega
      obtain ⟨ad, rfl, c0, c1, c2⟩ := facts_at hr2 k hlt
      obtain ⟨n1, n2⟩ := hnl k hlt
      generalize l[k] = f at *
      have q1 : ¬ (1024 : Int) < (f.k.size : Int) := by omega
      have q2 : ¬ (1048576 : Int) < (f.l.length : Int) := by omega
      clear c1 hnl
      go_wp2_with fail
      go_roundg (l.length - (k + 1))
      case measure => omega
      case rel => exact ⟨k + 1, rfl, by omega, by go_num, rfl⟩
    · obtain rfl : k = l.length := by omega
      have r1 : ¬ (l.length : Int) < (l.length : Int) := by omega
      clear hnl
      go_wp2_with fail
      go_loopg [7, 8, 9, 10, 11] l.length (fun m s7 s8 s9 s10 s11 wr => ∃ (k fi : Nat) (out now ix : List UInt8) (fst : ByteArray) (oA nA xA : Option Addr) (oc nc xc : Nat), m = l.length - k ∧ k ≤ l.length ∧ s11 = .int .i64 (k : Nat) ∧ s10 = .int .i64 (fi : Nat) ∧ s7 = .slice oA out.length oc ∧ s9 = .slice nA now.length nc ∧ s8 = .slice xA ix.length xc ∧
        bld block (l.drop k) now fst out ix = R ∧ (now = [] → fi = k) ∧ (now ≠ [] → ∃ h : fi < l.length, l[fi].k = fst) ∧ out.length + now.length ≤ k * 4194304 ∧ ix.length ≤ k * 4194304 ∧ RefS w2 wr oA nA xA oc nc xc out now ix)
      case atStart => exact ⟨0, 0, [], [], [], ⟨#[]⟩, none, none, none, 0, 0, 0, by omega, by omega, rfl, rfl, rfl, rfl, rfl, HB.out, fun _ => rfl, fun h => absurd rfl h, by simp, by simp, ⟨Below.refl _ _, World.ownsRow_nil _ _ _ _, World.ownsRow_nil _ _ _ _, World.ownsRow_nil _ _ _ _, Apart.nil _, Apart.nil _, Apart.nil _⟩⟩
      case round =>
        clear HB
        obtain ⟨k, fi, out, now, ix, fst, oA, nA, xA, oc, nc, xc, rfl, hk, rfl, rfl, rfl, rfl, rfl, hR, hfi, hfn, hs1, hs2, hS⟩ := hrel
        by_cases hlt : k < l.length
        · have r1 : (k : Int) < (l.length : Int) := by omega
          obtain ⟨ad, rfl, _⟩ := facts_at (hr2.below hS.bel) k hlt
          have hcell := fun W (hW : Below w2.heap.size w2 W) => facts_some (hr2.below hW) k hlt
          have hcell2 := fun W (hW : Below w2.heap.size w2 W) i h => facts_some (hr2.below hW) i h
          have hfo2 := hok2 _ (List.getElem_mem hlt)
          have hd : l.drop k = l[k] :: l.drop (k + 1) := List.drop_eq_getElem_cons hlt
          rw [hd] at hR
          have hrest : (l.drop (k + 1) = []) ↔ k + 1 = l.length := by rw [List.drop_eq_nil_iff]; omega
          have hef := encF_le l[k]
          have hep := encF_pos l[k]
          have hft : ∃ h : fi < l.length, l[fi].k = (if now = [] then l[k].k else fst) := by
            by_cases hn : now = []
            · have := hfi hn
              subst this
              exact ⟨hlt, by rw [if_pos hn]⟩
            · obtain ⟨h, e⟩ := hfn hn
              exact ⟨h, by rw [if_neg hn]; exact e⟩
          generalize l[k] = f at *
          generalize hre : l.drop (k + 1) = rest at *
          have HRE := Lib.hid hre
          have HE := Lib.hid hrest
          have HR2 : Hid ((if block ≤ (now ++ encF f).length ∨ rest = [] then
            bld block rest [] (if now = [] then f.k else fst) (out ++ sumB (now ++ encF f)) (ix ++ (lenB (strB (if now = [] then f.k else fst)) ++ numB ((now ++ encF f).length + 4)))
            else bld block rest (now ++ encF f) (if now = [] then f.k else fst) out ix) = R) := Lib.hid (by rw [← hR, bld])
          generalize hF : (if now = [] then f.k else fst) = ft at *
          obtain ⟨hfl, hfk⟩ := hft
          have HFK := Lib.hid hfk
          have hk1 := hfo2.key
          have hk2 := hfo2.few
          have hk3 := hfo2.seq
          have hfs : ft.size ≤ 1048576 := by rw [← hfk]; exact (hok2 _ (List.getElem_mem hfl)).key
          clear hre hrest hR hF hfi hfn hd hfk
          have hz0 : now.length + (encF f).length + out.length ≤ (k + 1) * 4194304 - 100 := by omega
          have hz2 : ix.length + 100 + ft.size ≤ (k + 1) * 4194304 := by omega
          have hz3 : (k + 1) * 4194304 ≤ 1048576 * 4194304 := Nat.mul_le_mul_right _ (by omega)
          -- the key
          obtain ⟨c0, _, _⟩ := hcell wr hS.bel
          obtain ⟨ck, w5, he5, hr5, hck, hb5⟩ := conv_str wr f.k
          have hS5 := hS.next hb5
          have hbk := rbytesL_any nA (some ⟨wr.heap.size, 0, none⟩) nc ck w2.heap.size now (strB f.k) f.k.size w5 (strB_length _) hS5.rn hS5.bel.size hr5 (fun _ ad e => by
            injection e with e
            subst e
            intro h
            have := (hS.rn.lt _ h).2
            simp at this) (by rw [strB_length]; omega)
          have hcat := enc_cat now f
          have hlk := lenB_le (strB f.k)
          rw [strB_length] at hlk
          have hlen1 : (now ++ lenB (strB f.k)).length = now.length + (lenB (strB f.k)).length := List.length_append
          generalize hn1 : now ++ lenB (strB f.k) = n1 at *
          have hl1 : n1.length ≤ now.length + 10 + f.k.size := by omega
          clear hlen1 hn1 hr5 hS5
          go_wp2_with fail
          refine hbk.mono ?_
          rintro e w6 ⟨A6, c6, rfl, ho6, hg6⟩
          have hS6 := (hS.next hb5).setN ho6 hg6
          clear hbk he5 c0 hS ho6 hg6 hb5
          -- the number
          obtain ⟨_, c1, _⟩ := hcell w6 hS6.bel
          have hbn := rnumL_any A6 c6 f.s w2.heap.size n1 w6 hS6.rn hS6.bel.size (by omega) hk3
          have hlen2 : (n1 ++ numB f.s).length = n1.length + (numB f.s).length := List.length_append
          have hn8 : (numB f.s).length ≤ 10 := (numF_length 9 f.s).1
          generalize hn2 : n1 ++ numB f.s = n2 at *
          have hl2 : n2.length ≤ n1.length + 10 := by omega
          clear hlen2 hn2
          go_wp2_with fail
          refine hbn.mono ?_
          rintro e w7 ⟨A7, c7, rfl, ho7, hg7⟩
          have hS7 := hS6.setN ho7 hg7
          clear hbn c1 hS6 ho7 hg7
          -- the value
          obtain ⟨_, _, c2⟩ := hcell w7 hS7.bel
          have hfo7 := hfo2.below hS7.bel
          have hbv := rbytesL_any A7 f.A c7 f.c w2.heap.size n2 f.l f.l.length w7 rfl hS7.rn hS7.bel.size hfo7.rd (fun hne ad e h => by
            have h1 := (hS7.rn.lt _ h).1
            obtain ⟨a2, e2, hlt2, _⟩ := hfo2.rd (by simpa [byts] using hne)
            rw [e] at e2
            injection e2 with e2
            subst e2
            omega) (by omega)
          rw [← hcat] at hbv
          have hln : (now ++ encF f).length = now.length + (encF f).length := List.length_append
          generalize hnw : now ++ encF f = nw at *
          have hl7 : nw.length ≤ now.length + (encF f).length := by omega
          have hl8 : 1 ≤ nw.length := by omega
          have hz1 : out.length + nw.length ≤ (k + 1) * 4194304 - 100 := by omega
          clear hcat hnw hln hfo7
          go_wp2_with fail
          refine hbv.mono ?_
          rintro e w8 ⟨A8, c8, rfl, ho8, hg8⟩
          have hS8 := hS7.setN ho8 hg8
          clear hbv c2 hS7 ho8 hg8 hcell
          go_upto_region 22 with fail
          go_cut [87] (fun s87 wx => s87 = .bool (decide (block ≤ nw.length ∨ rest = [])) ∧ w8 = wx)
          case first =>
            by_cases hc1 : block ≤ nw.length
            · have HC := Lib.hid (show decide (block ≤ nw.length ∨ rest = []) = true by simp [hc1])
              have d1 : decide (block ≤ nw.length) = true := by simpa using hc1
              clear hc1
              go_wp2_with fail
              go_meet
              exact ⟨by rw [HC.out]; try rfl, rfl⟩
            · have d1 : decide (block ≤ nw.length) = false := by simpa using hc1
              by_cases hc2 : rest = []
              · have HC := Lib.hid (show decide (block ≤ nw.length ∨ rest = []) = true by simp [hc2])
                have d2 : ((k : Int) == (l.length : Int) - 1) = true := by have := HE.out.1 hc2; simp; omega
                clear hc1 hc2
                go_wp2_with fail
                go_meet
                exact ⟨by rw [HC.out]; try rfl, rfl⟩
              · have HC := Lib.hid (show decide (block ≤ nw.length ∨ rest = []) = false by simp [hc1, hc2])
                have d2 : ((k : Int) == (l.length : Int) - 1) = false := by have := mt HE.out.2 hc2; simp; omega
                clear hc1 hc2
                go_wp2_with fail
                go_meet
                exact ⟨by rw [HC.out]; try rfl, rfl⟩
          case rest =>
          obtain ⟨rfl, rfl⟩ := hcut
          by_cases hc : block ≤ nw.length ∨ rest = []
          · have HC := Lib.hid (show decide (block ≤ nw.length ∨ rest = []) = true by simp [hc])
            have HR3 := HR2.out
            rw [if_pos hc] at HR3
            rw [HC.out]
            have HR3 := Lib.hid HR3
            clear hc HC HR2
            -- the block's sum
            have hsm := rsummed_any A8 c8 nw w8 (Rd.of_own hS8.rn) (by omega)
            go_wp2_with fail
            refine hsm.mono ?_
            rintro e w9 ⟨A9, c9, rfl, ho9, hb9⟩
            have hS9 := hS8.next hb9
            have hap9 := Apart.fresh hS8.rx ho9 (Nat.le_refl _)
            clear hsm hS8 hfo2 hok2
            have r2 : (fi : Int) < (l.length : Int) := by omega
            have hr9 := Rd.of_own ho9
            have hsl := Lib.hid (show (byts (sumB nw)).length = (nw.length + 4) * 1 by rw [byts_length, sumB_length, Nat.mul_one])
            obtain ⟨c0, _, _⟩ := hcell2 w9 hS9.bel fi hfl
            rw [HFK.out] at c0
            obtain ⟨ck, w10, he10, hr10, hck, hb10⟩ := conv_str w9 ft
            have hS10 := hS9.next hb10
            have hr9a := hr9.below hb10
            have ho10 := own_below ho9 hb10
            have hbx := rbytesL_any xA (some ⟨w9.heap.size, 0, none⟩) xc ck w2.heap.size ix (strB ft) ft.size w10 (strB_length _) hS10.rx hS10.bel.size hr10 (fun _ ad e => by
              injection e with e
              subst e
              intro h
              have := (hS9.rx.lt _ h).2
              simp at this) (by rw [strB_length]; omega)
            have hll := lenB_le (strB ft)
            rw [strB_length] at hll
            have hix : (ix ++ lenB (strB ft)).length ≤ ix.length + 10 + ft.size := by rw [List.length_append]; omega
            generalize hi2 : ix ++ lenB (strB ft) = ix2 at *
            have HI2 := Lib.hid hi2
            clear hi2 hr9 hr10 hck
            go_wp2_with fail
            refine hbx.mono ?_
            rintro e w11 ⟨A11, c11, rfl, ho11, hg11⟩
            have hS11 := hS10.setX ho11 hg11
            have hr11 := hr9a.grew hg11 (fun ad e h => by
              subst e
              exact hap9 _ rfl h)
            have hap11 := hap9.grew ho10 hg11
            clear hap9 ho9 ho10
            have hn5 : (numB (nw.length + 4)).length ≤ 10 := (numF_length 9 _).1
            have hi3l : (ix2 ++ numB (nw.length + 4)).length ≤ ix2.length + 10 := by rw [List.length_append]; omega
            have hnu := rnumL_any A11 c11 (nw.length + 4) w2.heap.size ix2 w11 hS11.rx hS11.bel.size (by omega) (by omega)
            rw [show ((nw.length + 4 : Nat) : Int) = (nw.length : Int) + 4 from by omega] at hnu
            generalize hi3 : ix2 ++ numB (nw.length + 4) = ix3 at *
            have HI3 := Lib.hid hi3
            have HIX := Lib.hid (show ix ++ (lenB (strB ft) ++ numB (nw.length + 4)) = ix3 by rw [← hi3, ← HI2.out, List.append_assoc])
            clear hbx hi3 he10 c0 hcell2 hS10 ho11 hg11 hr9a
            go_wp2_with fail
            refine hnu.mono ?_
            rintro e w12 ⟨A12, c12, rfl, ho12, hg12⟩
            have hS12 := hS11.setX ho12 hg12
            have hr12 : Rd w12 A9 (byts (sumB nw)) := hr11.grew hg12 (fun ad e h => by
              subst e
              exact hap11 _ rfl h)
            clear hnu hap11 hS11 ho12 hg12 hr11
            go_upto_region 27 with (at_builtin; refine wpList_app _ rfl _ _ rfl slB w2.heap.size (.slice oA out.length oc) _ _ rfl hS12.ro A9 (nw.length + 4) c9 (byts (sumB nw)) rfl hsl.out hr12 (byts_one _) (by unfold maxLen; omega) (by omega) hS12.bel.size ?_; intro A13 c13 w13 ho13 hg13)
            have HOL := Lib.hid (show (out ++ sumB nw).length = out.length + (nw.length + 4) by rw [List.length_append, sumB_length])
            have HO := Lib.hid (show byts out ++ byts (sumB nw) = byts (out ++ sumB nw) by simp [byts])
            rw [HO.out] at ho13
            have hz4 : ix3.length ≤ (k + 1) * 4194304 := by omega
            have hz5 : out.length + (nw.length + 4) ≤ (k + 1) * 4194304 := by omega
            have hS13 : RefS w2 w13 A13 none A12 c13 0 c12 (out ++ sumB nw) [] ix3 := RefS.clearN (hS12.setO (by rw [HOL.out]; exact ho13) (by rw [HOL.out]; exact hg13))
            clear hS12 ho13 hg13
            go_wp2_with fail
            go_roundg (l.length - (k + 1))
            case measure => omega
            case rel =>
              refine ⟨k + 1, k + 1, out ++ sumB nw, [], ix3, ft, A13, none, A12, c13, 0, c12, rfl, by omega, by go_num, by go_num, by rw [HOL.out], rfl, rfl, ?_, fun _ => rfl, fun h => absurd rfl h, ?_, hz4, hS13⟩
              · rw [HRE.out, ← HIX.out]; exact HR3.out
              · rw [HOL.out]; simpa using hz5
          · have HC := Lib.hid (show decide (block ≤ nw.length ∨ rest = []) = false by simp [hc])
            have HR3 := HR2.out
            rw [if_neg hc] at HR3
            rw [HC.out]
            have HR3 := Lib.hid HR3
            clear hc HC HR2
            have hz4 : out.length + nw.length ≤ (k + 1) * 4194304 := Nat.le_trans hz1 (Nat.sub_le _ _)
            have hz5 : ix.length ≤ (k + 1) * 4194304 := Nat.le_trans (by rw [Nat.add_assoc]; exact Nat.le_add_right _ _) hz2
            have HNE := Lib.hid (show nw ≠ [] by intro e; subst e; simp at hl8)
            clear hcell2
            go_wp2_with fail
            go_roundg (l.length - (k + 1))
            case measure => omega
            case rel => exact ⟨k + 1, fi, out, nw, ix, ft, oA, A8, xA, oc, c8, xc, rfl, by omega, by go_num, rfl, rfl, rfl, rfl, by rw [HRE.out]; exact HR3.out, fun h => absurd h HNE.out, fun _ => ⟨hfl, HFK.out⟩, hz4, hz5, hS8⟩
        · obtain rfl : k = l.length := by omega
          have r1 : ¬ (l.length : Int) < (l.length : Int) := by omega
          rw [List.drop_length] at hR
          have hR1 : R = (out, ix) := by rw [← hR, bld]
          have HT2 := Lib.hid (show T = out ++ (sumB ix ++ footB (sumB ix).length l.length) by rw [HT.out, hR1])
          have hz3 : l.length * 4194304 ≤ 1048576 * 4194304 := Nat.mul_le_mul_right _ hl
          have hsm := rsummed_any xA xc ix wr (Rd.of_own hS.rx) (by omega)
          have hsl := sumB_length ix
          rw [← hsl] at hsm
          have hsz : (sumB ix).length ≤ 4398046511108 := by omega
          have hoz : out.length ≤ 4398046511104 := by omega
          have hbel := hS.bel
          have hro := hS.ro
          clear hR hR1 HT hlt hsl hfi hfn hok2 hs1 hs2 hz3 hS
          generalize sumB ix = sx at *
          go_wp2_with fail
          refine hsm.mono ?_
          rintro e w3 ⟨A3, c3, rfl, ho3, hb3⟩
          have hro3 := own_below hro hb3
          have hbel3 := hbel.trans (hb3.mono hbel.size)
          have hsx := Lib.hid (show (byts sx).length = sx.length * 1 by rw [byts_length, Nat.mul_one])
          have hr3 := Rd.of_own ho3
          clear hsm hro hbel hb3 ho3
          go_upto_region 31 with (at_builtin; refine wpList_app _ rfl _ _ rfl slB w2.heap.size (.slice oA out.length oc) _ _ rfl hro3 A3 sx.length c3 (byts sx) rfl hsx.out hr3 (byts_one _) (by unfold maxLen; omega) (by omega) hbel3.size ?_; intro A4 c4 w4 ho4 hg4)
          have hbel4 := hbel3.trans (hg4.under hro3 (Nat.le_refl _) hbel3.size)
          have HOL := Lib.hid (show (out ++ sx).length = out.length + sx.length from List.length_append)
          have hb1 : byts out ++ byts sx = byts (out ++ sx) := by simp [byts]
          rw [hb1] at ho4
          have hT3 : T = (out ++ sx) ++ footB sx.length l.length := by rw [HT2.out, List.append_assoc]
          generalize out ++ sx = o2 at *
          have HT3 := Lib.hid hT3
          have hf1 := Low_any none 0 sx.length 4 w4.heap.size [] 0 w4 (World.ownsRow_nil _ _ _ _) (Nat.le_refl _) (by omega) (by omega)
          rw [show ((4 : Nat) : Int) = 4 from rfl] at hf1
          clear hb1 hT3 HT2 hro3 hbel3 hg4 hr3 hsx
          go_wp2_with fail
          refine hf1.mono ?_
          rintro e w5 ⟨A5, c5, rfl, ho5, hg5⟩
          have hb5 : Below w4.heap.size w4 w5 := hg5.toBelow (Nat.le_refl _) (by simp [Value.ownBlock])
          simp only [Nat.zero_add, List.nil_append] at ho5
          have hf2 := Low_any A5 c5 l.length 4 w4.heap.size (byts (lowB sx.length 4)) 4 w5 ho5 hb5.size (by omega) (by omega)
          rw [show ((4 : Nat) : Int) = 4 from rfl] at hf2
          clear hf1 hg5
          go_wp2_with fail
          refine hf2.mono ?_
          rintro e w6 ⟨A6, c6, rfl, ho6, hg6⟩
          have hb6 : Below w4.heap.size w4 w6 := hb5.trans (hg6.under ho5 (Nat.le_refl _) hb5.size)
          have hfo : lowB sx.length 4 ++ lowB l.length 4 ++ lowB (crcB (lowB sx.length 4 ++ lowB l.length 4)) 4 = footB sx.length l.length := rfl
          rw [show byts (lowB sx.length 4) ++ byts (lowB l.length 4) = byts (lowB sx.length 4 ++ lowB l.length 4) by simp [byts]] at ho6
          have he8 : (lowB sx.length 4 ++ lowB l.length 4).length = 8 := by simp [lowB_length]
          generalize lowB sx.length 4 ++ lowB l.length 4 = e8 at *
          have HFO := Lib.hid hfo
          have HE8 := Lib.hid he8
          have hsu := refSum_any A6 c6 e8 w6 (by have := Rd.of_own ho6; exact this) (by omega)
          rw [← crc_eq, he8] at hsu
          have hcr := crcB_lt e8
          generalize crcB e8 = q at *
          clear hf2 hg6 hfo he8 ho5
          go_wp2_with fail
          refine hsu.mono ?_
          rintro e w7 ⟨rfl, rfl⟩
          have hf3 := four_any A6 c6 q 8 w4.heap.size (byts e8) w6 ho6 hb6.size (by omega) hcr
          clear hsu
          go_wp2_with fail
          refine hf3.mono ?_
          rintro e w7 ⟨A7, c7, rfl, ho7, hg7⟩
          have hb7 : Below w4.heap.size w4 w7 := hb6.trans (hg7.under ho6 (Nat.le_refl _) hb6.size)
          have hro7 := own_below ho4 hb7
          have hbel7 := hbel4.trans (hb7.mono hbel4.size)
          have hr7 := Rd.of_own ho7
          have hsF := Lib.hid (show (byts e8 ++ byts (lowB q 4)).length = 12 * 1 by simp [byts_length, lowB_length, HE8.out])
          have hone : ∀ u ∈ byts e8 ++ byts (lowB q 4), u.oneCell' = true := fun u hu => by
            rcases List.mem_append.1 hu with h | h
            · exact byts_one _ u h
            · exact byts_one _ u h
          clear hf3 hg7 ho7 ho6 ho4 hb6 hb5 hbel4
          go_wp2_with (at_builtin; refine wpList_app _ rfl _ _ rfl slB w2.heap.size (.slice A4 (out.length + sx.length) c4) _ _ rfl hro7 A7 12 c7 (byts e8 ++ byts (lowB q 4)) rfl hsF.out hr7 hone (by unfold maxLen; omega) (by omega) hbel7.size ?_; intro A8 c8 w8 ho8 hg8)
          go_ret2
          have hTL : T.length = out.length + sx.length + 12 := by rw [HT3.out, List.length_append, HOL.out, ← HFO.out]; simp [lowB_length, HE8.out]
          have hTB : byts o2 ++ (byts e8 ++ byts (lowB q 4)) = byts T := by rw [HT3.out, ← HFO.out]; simp [byts]
          rw [hTB] at ho8
          have hbF := hb02.trans ((hbel7.trans (hg8.under hro7 (Nat.le_refl _) hbel7.size)).mono hb02.size)
          exact ⟨A8, c8, by rw [hTL]; rfl, by rw [hTL]; exact own_mono ho8 hb02.size, hbF⟩
end Go.Proofs.Ytadgaphgomagkaa
/- The reference's tables are built: all ways. -/
namespace Go.Proofs.Ytadgaphgomagkaa
open Go.RowKit
set_option maxHeartbeats 8000000
set_option maxRecDepth 100000

theorem refBuild_any (A : Option Addr) (c : Nat) (l : List FM) (block : Int) (w : World) (hr : Rd w A (fcells l)) (hok : ∀ f ∈ l, f.ok w) (hl : l.length ≤ 1048576) :
    Calls Try.prog 34 #[.slice A l.length c, .int .i64 block] w (BuildPost w (buildR l block)) := by
  have HB : Hid (buildR l block = if block < 1 ∨ 1048576 < block then ([], 1) else if rightF l = false then ([], 25) else if l.any longF = true then ([], 3) else (tabB l block.toNat, 0)) := Lib.hid rfl
  generalize buildR l block = R at *
  by_cases h1 : block < 1
  · have HR := Lib.hid (show R = ([], 1) by rw [HB.out, if_pos (.inl h1)])
    clear HB
    go_enter Try.func34, Try.ntmps34
    go_wp2
    go_ret2
    rw [HR.out]
    exact BuildPost.err (Below.refl _ _)
  by_cases h2 : 1048576 < block
  · have HR := Lib.hid (show R = ([], 1) by rw [HB.out, if_pos (.inr h2)])
    clear HB
    go_enter Try.func34, Try.ntmps34
    go_wp2
    go_ret2
    rw [HR.out]
    exact BuildPost.err (Below.refl _ _)
  have hrc := refRight_any A c l w hr hl
  cases hri : rightF l with
  | false =>
    have HR := Lib.hid (show R = ([], 25) by rw [HB.out, if_neg (by omega), if_pos hri])
    rw [hri] at hrc
    clear HB hri
    go_enter Try.func34, Try.ntmps34
    go_wp2_with fail
    refine hrc.mono ?_
    rintro e w1 ⟨rfl, hb1⟩
    clear hrc
    go_wp2_with fail
    go_ret2
    rw [HR.out]
    exact BuildPost.err hb1
  | true =>
    cases hlo : l.any longF with
    | true =>
      have HR := Lib.hid (show R = ([], 3) by rw [HB.out, if_neg (by omega), if_neg (by simp [hri]), if_pos hlo])
      rw [hri] at hrc
      have HLO := Lib.hid hlo
      clear HB hri hlo
      go_enter Try.func34, Try.ntmps34
      go_wp2_with fail
      refine hrc.mono ?_
      rintro e w2 ⟨rfl, hb1⟩
      clear hrc
      have hr2 := hr.below hb1
      go_wp2_with fail
      go_loopg [6] l.length (fun m s6 wr => ∃ k : Nat, m = l.length - k ∧ k ≤ l.length ∧ s6 = .int .i64 (k : Nat) ∧ (l.take k).any longF = false ∧ w2 = wr)
      case atStart => exact ⟨0, by omega, by omega, rfl, rfl, rfl⟩
      case round =>
        obtain ⟨k, rfl, hk, rfl, hs, rfl⟩ := hrel
        by_cases hlt : k < l.length
        · have r1 : (k : Int) < (l.length : Int) := by omega
          have hs2 : (l.take (k + 1)).any longF = longF l[k] := by rw [List.take_succ_eq_append_getElem hlt, List.any_append, hs]; simp
          obtain ⟨ad, rfl, c0, c1, c2⟩ := facts_at hr2 k hlt
          generalize l[k] = f at *
          rw [longF] at hs2
          by_cases q1 : 1024 < f.k.size
          · have q1 : ((1024 : Int) < (f.k.size : Int)) := by omega
            clear c1 hs hs2
            go_wp2_with fail
            go_ret2
            rw [HR.out]
            exact BuildPost.err hb1
          · have q1' : ¬ ((1024 : Int) < (f.k.size : Int)) := by omega
            by_cases q2 : 1048576 < f.l.length
            · have q2 : ((1048576 : Int) < (f.l.length : Int)) := by omega
              clear c1 hs hs2 q1
              go_wp2_with fail
              go_ret2
              rw [HR.out]
              exact BuildPost.err hb1
            · have q2' : ¬ ((1048576 : Int) < (f.l.length : Int)) := by omega
              have hs3 := Lib.hid (show (l.take (k + 1)).any longF = false by rw [hs2]; simp [q1, q2])
              clear c1 hs hs2 q1 q2
              go_wp2_with fail
              go_roundg (l.length - (k + 1))
              case measure => omega
              case rel => exact ⟨k + 1, rfl, by omega, by go_num, hs3.out, rfl⟩
        · exfalso
          obtain rfl : k = l.length := by omega
          rw [List.take_length, HLO.out] at hs
          exact absurd hs (by simp)
    | false =>
      obtain ⟨b, rfl⟩ : ∃ b : Nat, block = (b : Int) := ⟨block.toNat, by omega⟩
      have hR : R = (tabB l b, 0) := by rw [HB.out, if_neg (by omega), if_neg (by simp [hri]), if_neg (by simp [hlo])]; simp
      refine (rbuild_loop w A c l b hr hok hl (by omega) hri hlo).mono ?_
      rintro e w' ⟨A', c', rfl, ho, hb⟩
      rw [hR]
      exact ⟨A', c', rfl, ho, hb⟩
end Go.Proofs.Ytadgaphgomagkaa
