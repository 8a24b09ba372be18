/- The reference's merge of two lists. -/
import Derived.Test.YtadgaphgomagkaaQo
namespace Go.Proofs.Ytadgaphgomagkaa
open Go.RowKit
set_option maxHeartbeats 8000000
set_option maxRecDepth 100000

/-- which of two lists goes on -/
def cTw (a b : List FM) (i k : Nat) : Int := match a[i]?, b[k]? with
  | none, _ => 1
  | some _, none => -1
  | some x, some y => cmpF x y
theorem cmpF_neg (x y : FM) : cmpF x y < 0 ↔ ltF x y = true := by unfold ltF; rw [decide_eq_true_iff]
theorem cmpF_zero (x y : FM) : cmpF x y = 0 ↔ ltF x y = false ∧ ltF y x = false := by
  rw [← eqv_iff, ← eqF_eqv]; unfold eqF; rw [decide_eq_true_iff]
theorem cmpF_pos (x y : FM) : 0 < cmpF x y ↔ ltF x y = false ∧ ltF y x = true := by
  have h1 := cmpF_neg x y
  have h2 := cmpF_zero x y
  constructor
  · intro h
    have e1 : ltF x y = false := by
      cases e : ltF x y
      · rfl
      · have := h1.2 e; omega
    refine ⟨e1, ?_⟩
    cases e : ltF y x
    · have := h2.2 ⟨e1, e⟩; omega
    · rfl
  · rintro ⟨h3, h4⟩
    rcases Int.lt_trichotomy (cmpF x y) 0 with h | h | h
    · rw [h1.1 h] at h3; cases h3
    · rw [(h2.1 h).2] at h4; cases h4
    · exact h
theorem cTw_le (a b : List FM) (i k : Nat) (h : cTw a b i k ≤ 0) : i < a.length := by
  rcases Nat.lt_or_ge i a.length with hi | hi
  · exact hi
  · unfold cTw at h
    rw [List.getElem?_eq_none hi] at h
    simp at h
theorem two_lt (a b : List FM) (i k : Nat) (hi : i < a.length) (h : cTw a b i k < 0) : two ltF (a.drop i) (b.drop k) = a[i] :: two ltF (a.drop (i + 1)) (b.drop k) := by
  unfold cTw at h
  rw [List.getElem?_eq_getElem hi] at h
  rw [List.drop_eq_getElem_cons hi]
  rcases Nat.lt_or_ge k b.length with hk | hk
  · rw [List.getElem?_eq_getElem hk] at h
    rw [List.drop_eq_getElem_cons hk, two, if_pos ((cmpF_neg _ _).1 h)]
  · rw [List.drop_eq_nil_of_le hk, two]
    congr 1
    cases hq : a.drop (i + 1) <;> rw [two]
theorem two_eq (a b : List FM) (i k : Nat) (hi : i < a.length) (h : cTw a b i k = 0) : k < b.length ∧ two ltF (a.drop i) (b.drop k) = a[i] :: two ltF (a.drop (i + 1)) (b.drop (k + 1)) := by
  unfold cTw at h
  rw [List.getElem?_eq_getElem hi] at h
  rcases Nat.lt_or_ge k b.length with hk | hk
  · rw [List.getElem?_eq_getElem hk] at h
    have h2 := (cmpF_zero _ _).1 h
    exact ⟨hk, by rw [List.drop_eq_getElem_cons hi, List.drop_eq_getElem_cons hk, two, if_neg (by simp [h2.1]), if_neg (by simp [h2.2])]⟩
  · rw [List.getElem?_eq_none hk] at h
    simp at h
theorem two_gt (a b : List FM) (i k : Nat) (hik : i < a.length ∨ k < b.length) (h : 0 < cTw a b i k) : ∃ hk : k < b.length, two ltF (a.drop i) (b.drop k) = b[k] :: two ltF (a.drop i) (b.drop (k + 1)) := by
  unfold cTw at h
  rcases Nat.lt_or_ge i a.length with hi | hi
  · rw [List.getElem?_eq_getElem hi] at h
    rcases Nat.lt_or_ge k b.length with hk | hk
    · rw [List.getElem?_eq_getElem hk] at h
      have h2 := (cmpF_pos _ _).1 h
      exact ⟨hk, by rw [List.drop_eq_getElem_cons hi, List.drop_eq_getElem_cons hk, two, if_neg (by simp [h2.1]), if_pos h2.2]⟩
    · rw [List.getElem?_eq_none hk] at h
      simp at h
  · have hk : k < b.length := by omega
    refine ⟨hk, ?_⟩
    rw [List.drop_eq_nil_of_le hi, List.drop_eq_getElem_cons hk, two, two]
theorem two_done (a b : List FM) (i k : Nat) (hi : a.length ≤ i) (hk : b.length ≤ k) : two ltF (a.drop i) (b.drop k) = [] := by
  rw [List.drop_eq_nil_of_le hi, List.drop_eq_nil_of_le hk, two]
theorem two_len {α : Type} (lt : α → α → Bool) : ∀ a b : List α, (two lt a b).length ≤ a.length + b.length
  | [], b => by rw [two]; simp
  | a :: r, [] => by rw [two]; simp
  | a :: r, b :: r' => by
    rw [two]
    split
    · have := two_len lt r (b :: r'); simp only [List.length_cons] at *; omega
    · split
      · have := two_len lt (a :: r) r'; simp only [List.length_cons] at *; omega
      · have := two_len lt r r'; simp only [List.length_cons] at *; omega
termination_by a b => a.length + b.length

structure TwoRel (w wr : World) (a b : List FM) (i k : Nat) (A' : Option Addr) (c' : Nat) (L : List FM) : Prop where
  li : i ≤ a.length
  lk : k ≤ b.length
  row : Row wr w.heap.size A' c' L
  two : two ltF a b = L ++ two ltF (a.drop i) (b.drop k)
  len : L.length ≤ i + k
  bel : Below w.heap.size w wr
theorem Row.app1 {w wr w' : World} {A A' : Option Addr} {c c' : Nat} {L : List FM} {x : FM} (h : Row wr w.heap.size A c L) (hb : Below w.heap.size w wr) (hx : x.ok w)
    (ho : w'.ownsRow w.heap.size 71 3 (.slice A' (L.length + 1) c') (L.length + 1) (fcells L ++ [.string x.k, .int .u64 (x.s : Nat), .slice x.A x.l.length x.c])) (hg : Grew wr w' (.slice A L.length c) (.slice A' (L.length + 1) c')) : Row w' w.heap.size A' c' (L ++ [x]) := by
  refine h.app (M := [x]) (fun q hq => by rw [List.mem_singleton.1 hq]; exact hx.below hb) (fun q hq hn ad e e2 => ?_) ho hg
  rw [List.mem_singleton.1 hq] at hn e
  obtain ⟨ad', e', hltb, _⟩ := hx.rd (by simpa [byts] using hn)
  rw [e] at e'
  injection e' with e'
  subst e'
  have := (h.own.lt _ e2).1
  omega

theorem refTwo_any (A Ab : Option Addr) (ca cb : Nat) (a b : List FM) (w : World) (ha : Rd w A (fcells a)) (hb : Rd w Ab (fcells b)) (hao : ∀ f ∈ a, f.ok w) (hbo : ∀ f ∈ b, f.ok w) (hn : a.length + b.length ≤ 1048576) :
    Calls Try.prog 93 #[.slice A a.length ca, .slice Ab b.length cb] w fun e w' => ∃ A' c' R, e = .returned (.slice A' R.length c') ∧ Row w' w.heap.size A' c' R ∧ R = two ltF a b ∧ Below w.heap.size w w' := by
  go_enter Try.func93, Try.ntmps93
  go_wp2_with fail
  go_loopg [5, 6, 7, 8] (a.length + b.length) (fun m s5 s6 s7 s8 wr => ∃ (i k : Nat) (A' : Option Addr) (c' : Nat) (L : List FM), m = a.length + b.length - i - k ∧ s6 = .int .i64 (i : Nat) ∧ s7 = .int .i64 (k : Nat) ∧ s5 = .slice A' L.length c' ∧ TwoRel w wr a b i k A' c' L)
  case atStart => exact ⟨0, 0, none, 0, [], by omega, rfl, rfl, rfl, ⟨Nat.zero_le _, Nat.zero_le _, (Facts.nil _ _).row, rfl, Nat.le_refl _, Below.refl _ _⟩⟩
  case round =>
    obtain ⟨i, k, A', c', L, rfl, rfl, rfl, rfl, hR⟩ := hrel
    have hil := hR.li
    have hkl := hR.lk
    by_cases hik : i < a.length ∨ k < b.length
    · obtain ⟨c, hc⟩ : ∃ c, cTw a b i k = c := ⟨_, rfl⟩
      have HC := Lib.hid hc
      clear hc
      go_upto_region 4 with fail
      go_cut [18] (fun s18 wx => s18 = .bool true ∧ wr = wx)
      case first =>
        as_aux_lemma =>
        rcases Nat.lt_or_ge i a.length with hi | hi
        · have r1 : (i : Int) < (a.length : Int) := by omega
          go_wp2_with fail
          go_meet
          exact ⟨rfl, rfl⟩
        · have r1 : ¬ (i : Int) < (a.length : Int) := by omega
          have r2 : (k : Int) < (b.length : Int) := by omega
          go_wp2_with fail
          go_meet
          exact ⟨rfl, rfl⟩
      case rest =>
      obtain ⟨rfl, rfl⟩ := hcut
      go_upto_if 22 with fail
      go_cut [8] (fun s8 wx => s8 = .int .i64 c ∧ Below wr.heap.size wr wx)
      case first =>
        as_aux_lemma =>
        have hcc := HC.out
        unfold cTw at hcc
        rcases Nat.lt_or_ge i a.length with hi | hi
        · have r1 : (i : Int) < (a.length : Int) := by omega
          have r1e : ((i : Int) == (a.length : Int)) = false := by simp; omega
          have hai := List.getElem?_eq_getElem hi
          rw [hai] at hcc
          obtain ⟨pa, rfl, _⟩ := facts_at ha i hi
          rcases Nat.lt_or_ge k b.length with hk | hk
          · have r2 : ((k : Int) == (b.length : Int)) = false := by simp; omega
            have hbk := List.getElem?_eq_getElem hk
            rw [hbk] at hcc
            obtain ⟨pb, rfl, _⟩ := facts_at hb k hk
            simp only at hcc
            subst hcc
            have ha2 := (ha.below hR.bel).drew
            have hb2 := (hb.below hR.bel).drew
            clear HC ha hb hao hbo
            go_wp2_with fail
            refine regTw10 ha2 hb2 hai hbk hi hk ?_
            intro w2 _ _ _ _ _ _ _ _ _ hbb
            go_wp2_with fail
            go_meet
            exact ⟨rfl, hbb⟩
          · have hke : k = b.length := by omega
            have r2 : ((k : Int) == (b.length : Int)) = true := by simp; omega
            rw [List.getElem?_eq_none hk] at hcc
            simp only at hcc
            subst hcc
            clear HC ha hb hao hbo hke
            go_wp2_with fail
            go_meet
            exact ⟨rfl, Below.refl _ _⟩
        · have r1 : ¬ (i : Int) < (a.length : Int) := by omega
          have r1e : ((i : Int) == (a.length : Int)) = true := by simp; omega
          have r2 : (k : Int) < (b.length : Int) := by omega
          rw [List.getElem?_eq_none hi] at hcc
          simp only at hcc
          subst hcc
          clear HC ha hb hao hbo
          go_wp2_with fail
          go_meet
          exact ⟨rfl, Below.refl _ _⟩
      case rest =>
      obtain ⟨rfl, hbb⟩ := hcut
      have hRb := hR.bel.trans (hbb.mono hR.bel.size)
      have hrow := hR.row.below hbb
      have hbx := hRb
      have hLl := hR.len
      have h2 := hR.two
      clear hR hbb
      by_cases hc0 : c ≤ 0
      · have hcc := HC.out
        have hi := cTw_le a b i k (by rw [hcc]; exact hc0)
        have hia := hao _ (List.getElem_mem hi)
        have h3 : ∃ k', (c = 0 ∧ k' = k + 1 ∨ c < 0 ∧ k' = k) ∧ k' ≤ b.length ∧ two ltF (a.drop i) (b.drop k) = a[i] :: two ltF (a.drop (i + 1)) (b.drop k') := by
          by_cases h0 : c = 0
          · obtain ⟨q1, q2⟩ := two_eq a b i k hi (by rw [hcc]; exact h0)
            exact ⟨k + 1, .inl ⟨h0, rfl⟩, q1, q2⟩
          · exact ⟨k, .inr ⟨by omega, rfl⟩, hkl, two_lt a b i k hi (by rw [hcc]; omega)⟩
        obtain ⟨pa, rfl, d0, d1, d2⟩ := facts_at (ha.below hRb) i hi
        generalize a[i] = x at *
        obtain ⟨k', hk', hkb, h4⟩ := h3
        have hx := (Below.refl wc.heap.size wc).alloc (Nat.le_refl _) (.cells #[.string x.k, .int .u64 (x.s : Nat), .slice x.A x.l.length x.c] 71)
        have hrx := hrow.below hx
        have hbx := hRb.trans (hx.mono hRb.size)
        have rl : (i : Int) < (a.length : Int) := by omega
        rcases hk' with ⟨h0, rfl⟩ | ⟨h0, rfl⟩
        · subst h0
          clear HC hcc
          go_wp2_with (at_builtin; refine wpList_app _ rfl _ _ rfl slF w.heap.size (.slice A' L.length c') L.length (fcells L) rfl hrx.own _ 1 1 [.string x.k, .int .u64 (x.s : Nat), .slice x.A x.l.length x.c] rfl rfl (Rd.many _ _ _) (by simp [Value.oneCell']) (by unfold maxLen; omega) (by omega) hbx.size ?_; intro A7 c7 w7 ho7 hg7)
          go_roundg (a.length + b.length - (i + 1) - (k + 1))
          case measure => omega
          case rel =>
            refine ⟨i + 1, k + 1, A7, c7, L ++ [x], rfl, by go_num, by go_num, by rw [List.length_append]; rfl, ⟨hi, hkb, hrx.app1 hbx hia ho7 hg7, by rw [h2, h4]; simp, by simp; omega, hbx.trans (hg7.under hrx.own (Nat.le_refl _) hbx.size)⟩⟩
        · have r0 : ¬ c = 0 := by omega
          have r0b : (c == 0) = false := by simp; omega
          clear HC hcc
          go_wp2_with (at_builtin; refine wpList_app _ rfl _ _ rfl slF w.heap.size (.slice A' L.length c') L.length (fcells L) rfl hrx.own _ 1 1 [.string x.k, .int .u64 (x.s : Nat), .slice x.A x.l.length x.c] rfl rfl (Rd.many _ _ _) (by simp [Value.oneCell']) (by unfold maxLen; omega) (by omega) hbx.size ?_; intro A7 c7 w7 ho7 hg7)
          go_roundg (a.length + b.length - (i + 1) - k')
          case measure => omega
          case rel =>
            refine ⟨i + 1, k', A7, c7, L ++ [x], rfl, by go_num, rfl, by rw [List.length_append]; rfl, ⟨hi, hkl, hrx.app1 hbx hia ho7 hg7, by rw [h2, h4]; simp, by simp; omega, hbx.trans (hg7.under hrx.own (Nat.le_refl _) hbx.size)⟩⟩
      · obtain ⟨hk, h4⟩ := two_gt a b i k hik (by rw [HC.out]; omega)
        have hia := hbo _ (List.getElem_mem hk)
        obtain ⟨pb, rfl, d0, d1, d2⟩ := facts_at (hb.below hRb) k hk
        generalize b[k] = x at *
        have hx := (Below.refl wc.heap.size wc).alloc (Nat.le_refl _) (.cells #[.string x.k, .int .u64 (x.s : Nat), .slice x.A x.l.length x.c] 71)
        have hrx := hrow.below hx
        have hbx := hRb.trans (hx.mono hRb.size)
        have rl : (k : Int) < (b.length : Int) := by omega
        clear HC
        go_wp2_with (at_builtin; refine wpList_app _ rfl _ _ rfl slF w.heap.size (.slice A' L.length c') L.length (fcells L) rfl hrx.own _ 1 1 [.string x.k, .int .u64 (x.s : Nat), .slice x.A x.l.length x.c] rfl rfl (Rd.many _ _ _) (by simp [Value.oneCell']) (by unfold maxLen; omega) (by omega) hbx.size ?_; intro A7 c7 w7 ho7 hg7)
        go_roundg (a.length + b.length - i - (k + 1))
        case measure => omega
        case rel =>
          refine ⟨i, k + 1, A7, c7, L ++ [x], rfl, rfl, by go_num, by rw [List.length_append]; rfl, ⟨hil, hk, hrx.app1 hbx hia ho7 hg7, by rw [h2, h4]; simp, by simp; omega, hbx.trans (hg7.under hrx.own (Nat.le_refl _) hbx.size)⟩⟩
    · have r1 : ¬ (i : Int) < (a.length : Int) := by omega
      have r2 : ¬ (k : Int) < (b.length : Int) := by omega
      have ht := hR.two
      rw [two_done a b i k (by omega) (by omega), List.append_nil] at ht
      go_wp2_with fail
      go_ret
      exact ⟨A', c', L, rfl, hR.row, rfl, hR.bel⟩
end Go.Proofs.Ytadgaphgomagkaa
/- The reference's merge of lists. -/
namespace Go.Proofs.Ytadgaphgomagkaa
open Go.RowKit
set_option maxHeartbeats 8000000
set_option maxRecDepth 100000

def foldT (ll : List LM) : List FM := (ll.map LM.L).foldl (two ltF) []
theorem foldT_snoc (ll : List LM) (m : LM) : foldT (ll ++ [m]) = two ltF (foldT ll) m.L := by unfold foldT; rw [List.map_append, List.foldl_append]; rfl
theorem foldT_len (ll : List LM) : ∀ i, i ≤ ll.length → (foldT (ll.take i)).length ≤ (catF (ll.take i)).length
  | 0, _ => by simp [foldT]
  | i + 1, h => by
    have ih := foldT_len ll i (by omega)
    rw [catF_take ll i (by omega), List.take_succ_eq_append_getElem (by omega), foldT_snoc, List.length_append]
    exact Nat.le_trans (two_len ltF _ _) (by omega)
theorem foldT_norm (ll : List LM) (h : rightL ll = true) : Norm ltV (catV ll) ((foldT ll).map FM.fv) := by
  unfold rightL at h
  rw [List.all_eq_true] at h
  have := fold_norm ltF_wk (ll.map LM.L) [] [] (norm_nil _) fun l hl => by
    obtain ⟨m, hm, rfl⟩ := List.mem_map.1 hl
    exact rightF_str _ (h m hm)
  have h2 := this.fv
  rw [List.nil_append] at h2
  unfold catV catF
  rw [List.flatMap_def]
  exact h2
theorem refMerge_any (A : Option Addr) (c : Nat) (ll : List LM) (w : World) (hr : Rd w A (ll.map LM.val)) (hok : ∀ m ∈ ll, m.ok w) (hn : (catF ll).length ≤ 1048576) (hll : ll.length ≤ 1048576) :
    Calls Try.prog 48 #[.slice A ll.length c] w (MergePost w ll) := by
  go_enter Try.func48, Try.ntmps48
  go_wp2_with fail
  go_loopg [4] ll.length (fun m s4 wr => ∃ i : Nat, m = ll.length - i ∧ i ≤ ll.length ∧ s4 = .int .i64 (i : Nat) ∧ (∀ m ∈ ll.take i, rightF m.L = true) ∧ Below w.heap.size w wr)
  case atStart => exact ⟨0, by omega, by omega, rfl, by simp, Below.refl _ _⟩
  case round =>
    obtain ⟨i, rfl, hi, rfl, hri, hb⟩ := hrel
    by_cases hlt : i < ll.length
    · have r1 : (i : Int) < (ll.length : Int) := by omega
      obtain ⟨ad, rfl, hadb, hcell0⟩ := hr.at_ (k := i) (by simpa using hlt)
      have hcell : wr.cell? (ad.add i) = some (.slice ll[i].A ll[i].L.length ll[i].c) := by
        rw [hb.cell (p := ad.add i) (by rw [add_block]; exact hadb), hcell0]
        simp [LM.val]
      have hm := (hok _ (List.getElem_mem hlt)).below hb
      have hcl := catF_len ll i hlt
      have hmem : ∀ m ∈ ll.take (i + 1), m ∈ ll.take i ∨ m = ll[i] := fun m hm => by
        rw [List.take_succ_eq_append_getElem hlt] at hm
        rcases List.mem_append.1 hm with h | h
        · exact .inl h
        · exact .inr (List.mem_singleton.1 h)
      have hin := List.getElem_mem hlt
      generalize ll[i] = q at *
      obtain ⟨qA, qc, M⟩ := q
      simp only at *
      have hRa := refRight_any qA qc M wr hm.1 (by omega)
      cases hR : rightF M with
      | false =>
        rw [hR] at hRa
        have hRL : rightL ll = false := by
          cases h : rightL ll
          · rfl
          · unfold rightL at h
            rw [List.all_eq_true] at h
            have := h _ hin
            rw [hR] at this
            cases this
        have HR := Lib.hid hRL
        clear hRL
        go_wp2_with fail
        refine hRa.mono ?_
        rintro e w2 ⟨rfl, hb2⟩
        go_wp2_with fail
        go_ret2
        exact ⟨hb.trans (hb2.mono hb.size), by rw [HR.out]; rfl⟩
      | true =>
        rw [hR] at hRa
        go_wp2_with fail
        refine hRa.mono ?_
        rintro e w2 ⟨rfl, hb2⟩
        clear hRa
        go_wp2_with fail
        go_roundg (ll.length - (i + 1))
        case measure => omega
        case rel => exact ⟨i + 1, rfl, hlt, by go_num, fun m hm => (hmem m hm).elim (hri m) fun e => by rw [e]; exact hR, hb.trans (hb2.mono hb.size)⟩
    · have r1 : ¬ (i : Int) < (ll.length : Int) := by omega
      have hil : i = ll.length := by omega
      subst hil
      rw [List.take_length] at hri
      have hrl : rightL ll = true := List.all_eq_true.2 hri
      have HR : Hid (rightL ll = true) := Lib.hid hrl
      clear hrl
      clear hri
      go_wp2_with fail
      generalize wr = wo at *
      clear r1
      go_loopg [5, 6] ll.length (fun m s5 s6 wr => ∃ (i : Nat) (A' : Option Addr) (c' : Nat), m = ll.length - i ∧ i ≤ ll.length ∧ s6 = .int .i64 (i : Nat) ∧ s5 = .slice A' (foldT (ll.take i)).length c' ∧ Row wr w.heap.size A' c' (foldT (ll.take i)) ∧ Below w.heap.size w wr)
      case atStart => exact ⟨0, none, 0, by omega, by omega, rfl, rfl, (Facts.nil _ _).row, hb⟩
      case round =>
        clear hb
        obtain ⟨i, A', c', rfl, hi, rfl, rfl, hF, hb⟩ := hrel
        by_cases hlt : i < ll.length
        · have r1 : (i : Int) < (ll.length : Int) := by omega
          obtain ⟨ad, rfl, hadb, hcell0⟩ := hr.at_ (k := i) (by simpa using hlt)
          have hcell : wr.cell? (ad.add i) = some (.slice ll[i].A ll[i].L.length ll[i].c) := by
            rw [hb.cell (p := ad.add i) (by rw [add_block]; exact hadb), hcell0]
            simp [LM.val]
          have hm := (hok _ (List.getElem_mem hlt)).below hb
          have hcl := catF_len ll i hlt
          have hfl := foldT_len ll i hi
          have hsn : foldT (ll.take (i + 1)) = two ltF (foldT (ll.take i)) ll[i].L := by rw [List.take_succ_eq_append_getElem hlt, foldT_snoc]
          generalize ll[i] = q at *
          obtain ⟨qA, qc, M⟩ := q
          simp only at *
          generalize foldT (ll.take i) = L at *
          have htw := refTwo_any A' qA c' qc L M wr (Rd.of_own hF.own) hm.1 hF.ok hm.2 (by omega)
          go_wp2_with fail
          refine htw.mono ?_
          rintro e w2 ⟨A2, c2, R, rfl, hR2, hRe, hb2⟩
          clear htw
          go_wp2_with fail
          go_roundg (ll.length - (i + 1))
          case measure => omega
          case rel => exact ⟨i + 1, A2, c2, rfl, hlt, by go_num, by rw [hsn], by rw [hsn, ← hRe]; exact ⟨own_mono hR2.own hb.size, hR2.ok, hR2.ap⟩, hb.trans (hb2.mono hb.size)⟩
        · have r1 : ¬ (i : Int) < (ll.length : Int) := by omega
          have hil : i = ll.length := by omega
          subst hil
          rw [List.take_length] at hF
          have hlen := foldT_len ll ll.length (Nat.le_refl _)
          rw [List.take_length] at *
          go_wp2_with fail
          go_ret2
          refine ⟨hb, ?_⟩
          rw [HR.out]
          exact ⟨A', c', foldT ll, rfl, Rd.of_own hF.own, hF.ok, foldT_norm ll HR.out, hlen⟩
end Go.Proofs.Ytadgaphgomagkaa
