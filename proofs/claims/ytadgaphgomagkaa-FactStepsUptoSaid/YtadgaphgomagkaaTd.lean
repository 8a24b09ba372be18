/- Plain: the order of texts; the search in a sorted list of facts; stretches. -/
import Derived.Test.YtadgaphgomagkaaLx
import Derived.Test.YtadgaphgomagkaaTa
namespace Go.Proofs.Ytadgaphgomagkaa
open Go.RowKit
set_option maxHeartbeats 1000000
set_option maxRecDepth 100000

/-- the order of bytes -/
def bl (x y : List UInt8) : Prop := Op.bytesLess x y = true
theorem bl_cons (a b : UInt8) (x y : List UInt8) : bl (a :: x) (b :: y) ↔ a.toNat < b.toNat ∨ a.toNat = b.toNat ∧ bl x y := by
  unfold bl
  rw [Op.bytesLess]
  simp only [Bool.or_eq_true, Bool.and_eq_true, decide_eq_true_eq, beq_iff_eq]
  rw [UInt8.lt_iff_toNat_lt, UInt8.toNat_inj]
theorem bl_nil_right (x : List UInt8) : ¬ bl x [] := by cases x <;> simp [bl, Op.bytesLess]
theorem bl_nil_cons (a : UInt8) (x : List UInt8) : bl [] (a :: x) := by simp [bl, Op.bytesLess]
theorem bl_irrefl : ∀ x, ¬ bl x x
  | [] => bl_nil_right []
  | a :: x => by
    rw [bl_cons]
    have := bl_irrefl x
    rintro (h | ⟨_, h⟩)
    · omega
    · exact this h
theorem bl_trans : ∀ {x y z}, bl x y → bl y z → bl x z
  | x, [], _, h, _ => absurd h (bl_nil_right x)
  | x, b :: y, [], _, h => absurd h (bl_nil_right _)
  | [], b :: y, c :: z, _, _ => bl_nil_cons c z
  | a :: x, b :: y, c :: z, h, k => by
    rw [bl_cons] at h k ⊢
    rcases h with h | ⟨h1, h2⟩ <;> rcases k with k | ⟨k1, k2⟩
    · left; omega
    · left; omega
    · left; omega
    · right; exact ⟨by omega, bl_trans h2 k2⟩
theorem bl_tri : ∀ {x y}, ¬ bl x y → ¬ bl y x → x = y
  | [], [], _, _ => rfl
  | [], b :: y, h, _ => absurd (bl_nil_cons b y) h
  | a :: x, [], _, h => absurd (bl_nil_cons a x) h
  | a :: x, b :: y, h, k => by
    rw [bl_cons] at h k
    simp only [not_or, not_and] at h k
    have e : a.toNat = b.toNat := by omega
    have e2 : a = b := UInt8.toNat_inj.1 e
    subst e2
    rw [bl_tri (h.2 rfl) (k.2 rfl)]
/-- between a text and the text with a byte 0 behind there is none -/
theorem bl_next : ∀ {x k : List UInt8}, bl x (k ++ [0]) → ¬ bl x k → x = k
  | [], [], _, _ => rfl
  | c :: x, [], h, _ => by
    rw [List.nil_append, bl_cons] at h
    rcases h with h | ⟨_, h⟩
    · exact absurd h (by simp)
    · exact absurd h (bl_nil_right x)
  | [], b :: k, _, h => absurd (bl_nil_cons b k) h
  | c :: x, b :: k, h, g => by
    rw [List.cons_append, bl_cons] at h
    rw [bl_cons] at g
    simp only [not_or, not_and] at g
    rcases h with h | ⟨h1, h2⟩
    · exact absurd h g.1
    · have e2 : c = b := UInt8.toNat_inj.1 h1
      subst e2
      rw [bl_next h2 (g.2 rfl)]
theorem bl_self_next : ∀ k : List UInt8, bl k (k ++ [0])
  | [] => bl_nil_cons 0 []
  | a :: k => by
    rw [List.cons_append, bl_cons]
    exact .inr ⟨rfl, bl_self_next k⟩
theorem sLt_iff (a b : ByteArray) : sLt a b = true ↔ bl (strB a) (strB b) := by
  unfold sLt bl
  rw [Lib.toList_data, Lib.toList_data]
  rfl
/-- a fact ahead of a key -/
theorem cmp_lt (f : FM) (key : ByteArray) (hs : f.s < 18446744073709551616) : cmpF f ⟨key, 18446744073709551615, none, 0, []⟩ < 0 ↔ bl (strB f.k) (strB key) := by
  rw [← sLt_iff]
  unfold cmpF cmpS cmpN orI
  simp only
  cases h1 : sLt f.k key with
  | true => simp
  | false =>
    simp only [Bool.false_eq_true, if_false, iff_false]
    have : ¬ 18446744073709551615 < f.s := by omega
    rw [if_neg this]
    split
    · rw [if_neg (by decide)]; decide
    · simp only [if_true]
      split <;> decide
/-- sorted: no key is ahead of one before it -/
theorem right_pair : ∀ (L : List FM), rightF L = true → ∀ i (h : i + 1 < L.length), ¬ bl (strB (L[i + 1]'h).k) (strB (L[i]'(by omega)).k)
  | [], _, i, h => by simp at h
  | [a], _, i, h => by simp at h
  | a :: b :: r, hr, i, h => by
    simp only [rightF, Bool.and_eq_true, decide_eq_true_eq] at hr
    cases i with
    | zero =>
      simp only [List.getElem_cons_zero, List.getElem_cons_succ]
      have h1 := hr.1
      intro hb
      rw [← sLt_iff] at hb
      unfold cmpF cmpS orI at h1
      have h2 : ¬ sLt a.k b.k = true := fun h3 => bl_irrefl _ (bl_trans ((sLt_iff _ _).1 h3) ((sLt_iff _ _).1 hb))
      have h3 : sGt a.k b.k = true := by
        unfold sGt
        unfold sLt at hb h2
        have h4 : ¬ a.k.toList = b.k.toList := fun e => by rw [e] at hb; exact bl_irrefl _ hb
        simp [h2, h4]
      rw [if_neg h2, if_pos h3] at h1
      simp at h1
    | succ i =>
      have := right_pair (b :: r) hr.2 i (by simpa using h)
      simpa using this
theorem right_mono (L : List FM) (hr : rightF L = true) : ∀ (j i : Nat) (hj : j < L.length) (_ : i ≤ j), ¬ bl (strB (L[j]'hj).k) (strB (L[i]'(by omega)).k)
  | 0, i, hj, hi => by
    obtain rfl : i = 0 := by omega
    exact bl_irrefl _
  | j + 1, i, hj, hi => by
    by_cases h : i = j + 1
    · subst h; exact bl_irrefl _
    · have ih := right_mono L hr j i (by omega) (by omega)
      have hp := right_pair L hr j hj
      intro hb
      by_cases h1 : bl (strB (L[j]'(by omega)).k) (strB (L[i]'(by omega)).k)
      · exact ih h1
      · by_cases h2 : bl (strB (L[i]'(by omega)).k) (strB (L[j]'(by omega)).k)
        · exact hp (bl_trans hb h2)
        · rw [← bl_tri h1 h2] at hb
          exact hp hb
theorem mono_count (p : Nat → Bool) : ∀ n, (∀ i, i + 1 < n → p (i + 1) = true → p i = true) → ∃ m, m ≤ n ∧ ∀ h, h < n → (p h = true ↔ h < m)
  | 0, _ => ⟨0, Nat.le_refl _, fun h hh => by omega⟩
  | n + 1, hp => by
    obtain ⟨m, hm, h⟩ := mono_count p n fun i hi => hp i (by omega)
    by_cases hn : p n = true
    · refine ⟨n + 1, Nat.le_refl _, fun i hi => ⟨fun _ => hi, fun _ => ?_⟩⟩
      have hmn : m = n ∨ m < n := by omega
      rcases Nat.lt_or_ge i n with h1 | h1
      · rcases hmn with rfl | hlt
        · exact (h i h1).2 h1
        · exfalso
          have h2 := hp (n - 1) (by omega) (by rw [show n - 1 + 1 = n by omega]; exact hn)
          have h3 := (h (n - 1) (by omega)).1 h2
          omega
      · obtain rfl : i = n := by omega
        exact hn
    · refine ⟨m, by omega, fun i hi => ?_⟩
      rcases Nat.lt_or_ge i n with h1 | h1
      · exact h i h1
      · obtain rfl : i = n := by omega
        exact ⟨fun h2 => absurd h2 hn, fun h2 => by omega⟩
/-- the search tells how many facts are ahead of a key -/
theorem plF_iff (L : List FM) (key : ByteArray) (hr : rightF L = true) (hs : ∀ f ∈ L, f.s < 18446744073709551616) (h : Nat) (hh : h < L.length) : bl (strB L[h].k) (strB key) ↔ h < plF L key := by
  have hp : ∀ i (hi : i < L.length), (pF L ⟨key, 18446744073709551615, none, 0, []⟩ i = true ↔ bl (strB (L[i]'hi).k) (strB key)) := fun i hi => by
    rw [pF_at (List.getElem?_eq_getElem hi), decide_eq_true_eq]
    exact cmp_lt _ key (hs _ (List.getElem_mem hi))
  obtain ⟨m, hm, hc⟩ := mono_count (pF L ⟨key, 18446744073709551615, none, 0, []⟩) L.length fun i hi h1 => by
    rw [hp (i + 1) hi] at h1
    rw [hp i (by omega)]
    have h2 := right_pair L hr i hi
    by_cases h3 : bl (strB (L[i]'(by omega)).k) (strB (L[i + 1]'hi).k)
    · exact bl_trans h3 h1
    · rw [bl_tri h3 h2]; exact h1
  have he : plF L key = m := bsF_count _ m L.length 0 L.length (by omega) (Nat.zero_le _) hm fun i _ hi => hc i hi
  rw [he, ← hc h hh, hp h hh]
theorem plF_mono (L : List FM) (hr : rightF L = true) (hs : ∀ f ∈ L, f.s < 18446744073709551616) (a b : ByteArray) (hab : bl (strB a) (strB b)) : plF L a ≤ plF L b := by
  rcases Nat.lt_or_ge (plF L b) (plF L a) with h | h
  · exfalso
    have hl := plF_le L a
    have h1 := (plF_iff L a hr hs (plF L b) (by omega)).2 h
    have h2 := (plF_iff L b hr hs (plF L b) (by omega)).1 (bl_trans h1 hab)
    omega
  · exact h
theorem plF_nil (L : List FM) (hr : rightF L = true) (hs : ∀ f ∈ L, f.s < 18446744073709551616) : plF L ⟨#[]⟩ = 0 := by
  rcases Nat.eq_zero_or_pos (plF L ⟨#[]⟩) with h | h
  · exact h
  · exfalso
    have hl := plF_le L ⟨#[]⟩
    exact bl_nil_right _ ((plF_iff L ⟨#[]⟩ hr hs 0 (by omega)).2 h)
end Go.Proofs.Ytadgaphgomagkaa
/- Plain: a key's stretch; stretches side by side. -/
namespace Go.Proofs.Ytadgaphgomagkaa
open Go.RowKit
set_option maxHeartbeats 1000000
set_option maxRecDepth 100000

theorem rngF_get (L : List FM) (lo hi : ByteArray) (j : Nat) : (rngF L lo hi)[j]? = if j < max (plF L lo) (plF L hi) - plF L lo then L[plF L lo + j]? else none := by
  rw [rngF, List.getElem?_take]
  split
  · rw [List.getElem?_drop]
  · rfl
/-- a key that is there -/
structure KeyAt (L : List FM) (k k0 : ByteArray) : Prop where
  ne : rngF L k k0 ≠ []
  all : ∀ f ∈ rngF L k k0, strB f.k = strB k
  get : ∃ f, getF L k = some f ∧ (rngF L k k0)[0]? = some f ∧ strB f.k = strB k
theorem getF_at (L : List FM) (k : ByteArray) (f : FM) (h : L[plF L k]? = some f) (hk : strB f.k = strB k) : getF L k = some f := by
  unfold getF
  rw [h]
  simp [strB_inj hk]
theorem key_at (L : List FM) (hr : rightF L = true) (hs : ∀ f ∈ L, f.s < 18446744073709551616) (i : Nat) (hi : i < L.length) (k k0 : ByteArray) (hk : strB L[i].k = strB k) (hk0 : strB k0 = strB k ++ [0]) : KeyAt L k k0 := by
  have h1 : plF L k ≤ i := by
    rcases Nat.lt_or_ge i (plF L k) with h | h
    · have := (plF_iff L k hr hs i hi).2 h
      rw [hk] at this
      exact absurd this (bl_irrefl _)
    · exact h
  have h2 : i < plF L k0 := (plF_iff L k0 hr hs i hi).1 (by rw [hk, hk0]; exact bl_self_next _)
  have hkey : ∀ j (hj : j < L.length), plF L k ≤ j → j < plF L k0 → strB L[j].k = strB k := fun j hj a b => by
    have h3 := (plF_iff L k0 hr hs j hj).2 b
    rw [hk0] at h3
    refine bl_next h3 fun h4 => ?_
    have := (plF_iff L k hr hs j hj).1 h4
    omega
  have hq := hkey (plF L k) (by omega) (Nat.le_refl _) (by omega)
  have hgq : L[plF L k]? = some (L[plF L k]'(by omega)) := List.getElem?_eq_getElem _
  refine ⟨fun h0 => ?_, fun f hf => ?_, _, getF_at L k _ hgq hq, ?_, hq⟩
  · have := rngF_get L k k0 0
    rw [h0, if_pos (by omega), Nat.add_zero, hgq] at this
    simp at this
  · obtain ⟨j, hj⟩ := List.mem_iff_getElem?.1 hf
    rw [rngF_get] at hj
    split at hj
    · obtain ⟨hl, rfl⟩ := List.getElem?_eq_some_iff.1 hj
      exact hkey _ hl (by omega) (by omega)
    · cases hj
  · rw [rngF_get, if_pos (by omega), Nat.add_zero, hgq]
/-- where the stretches stand: all facts ahead of a key -/
theorem rng_join (L : List FM) (hr : rightF L = true) (hs : ∀ f ∈ L, f.s < 18446744073709551616) (lo hi : ByteArray) (h : bl (strB lo) (strB hi)) : L.take (plF L lo) ++ rngF L lo hi = L.take (plF L hi) := by
  have h1 := plF_mono L hr hs lo hi h
  rw [rngF, Nat.max_eq_right h1]
  rw [show plF L hi = plF L lo + (plF L hi - plF L lo) by omega, List.take_add]
  congr 2
  omega
theorem strB_append (a b : ByteArray) : strB (a ++ b) = strB a ++ strB b := by
  show (a ++ b).data.toList = _
  rw [ByteArray.data_append]
  simp [strB]
/-- the same facts as values: what is told of the one list is told of the other -/
theorem keys_same {l L : List FM} (h : l.map FM.fv = L.map FM.fv) (i : Nat) (hi : i < l.length) : ∃ hL : i < L.length, strB l[i].k = strB L[i].k ∧ l[i].fv = L[i].fv := by
  have hl : l.length = L.length := by have := congrArg List.length h; simpa using this
  have hL : i < L.length := by omega
  have e : l[i].fv = L[i].fv := by
    have h1 : (l.map FM.fv)[i]? = (L.map FM.fv)[i]? := by rw [h]
    rw [List.getElem?_map, List.getElem?_map, List.getElem?_eq_getElem hi, List.getElem?_eq_getElem hL] at h1
    simpa using h1
  exact ⟨hL, congrArg FV.k e, e⟩
/-- a row of facts, of whatever values -/
structure Row (w : World) (B : Nat) (A : Option Addr) (c : Nat) (L : List FM) : Prop where
  own : w.ownsRow B 71 3 (.slice A L.length c) L.length (fcells L)
  ok : ∀ f ∈ L, f.ok w
  ap : ∀ f ∈ L, f.l ≠ [] → ∀ ad, f.A = some ad → (Value.slice A L.length c).ownBlock ≠ some ad.block
theorem Facts.row {w : World} {B : Nat} {A : Option Addr} {c : Nat} {L : List FM} (h : Facts w B A c L) : Row w B A c L := ⟨h.own, h.ok, fun f hf _ => h.ap f hf⟩
theorem Row.below {w w' : World} {B : Nat} {A : Option Addr} {c : Nat} {L : List FM} (h : Row w B A c L) (hb : Below w.heap.size w w') : Row w' B A c L := ⟨own_below h.own hb, fun f hf => (h.ok f hf).below hb, h.ap⟩
theorem Row.drewN {w : World} {B : Nat} {A : Option Addr} {c : Nat} {L : List FM} (h : Row w B A c L) (n : Nat) : Row (w.drewN n) B A c L := ⟨h.own, fun f hf => ⟨(h.ok f hf).rd, (h.ok f hf).cap, (h.ok f hf).few, (h.ok f hf).seq, (h.ok f hf).key⟩, h.ap⟩
theorem Row.app {w w' : World} {B : Nat} {A A' : Option Addr} {c c' : Nat} {L M : List FM} (h : Row w B A c L) (hM : ∀ f ∈ M, f.ok w) (hMa : ∀ f ∈ M, f.l ≠ [] → ∀ ad, f.A = some ad → (Value.slice A L.length c).ownBlock ≠ some ad.block)
    (ho : w'.ownsRow B 71 3 (.slice A' (L.length + M.length) c') (L.length + M.length) (fcells L ++ fcells M)) (hg : Grew w w' (.slice A L.length c) (.slice A' (L.length + M.length) c')) : Row w' B A' c' (L ++ M) := by
  have hall : ∀ f ∈ L ++ M, f.ok w ∧ (f.l ≠ [] → ∀ ad, f.A = some ad → (Value.slice A L.length c).ownBlock ≠ some ad.block) := by
    intro f hf
    rcases List.mem_append.1 hf with h1 | h1
    · exact ⟨h.ok f h1, h.ap f h1⟩
    · exact ⟨hM f h1, hMa f h1⟩
  refine ⟨by rw [fcells_append, List.length_append]; exact ho, fun f hf => ?_, fun f hf hn ad e e2 => ?_⟩
  · obtain ⟨h1, h3⟩ := hall f hf
    refine ⟨?_, h1.cap, h1.few, h1.seq, h1.key⟩
    by_cases hn : f.l = []
    · rw [hn]; exact fun h => absurd rfl h
    · exact h1.rd.grew hg (h3 hn)
  · obtain ⟨h1, h3⟩ := hall f hf
    rw [List.length_append] at e2
    rcases hg.loc _ e2 with h4 | h4
    · exact h3 hn ad e h4
    · obtain ⟨ad', e', hlt, _⟩ := h1.rd (by simpa [byts] using hn)
      rw [e] at e'
      injection e' with e'
      subst e'
      omega
end Go.Proofs.Ytadgaphgomagkaa
