/- Lists of facts merged: the plain law. -/
import Derived.Test.YtadgaphgomagkaaQg
import Derived.Test.YtadgaphgomagkaaQj
import Derived.Test.YtadgaphgomagkaaLf
namespace Go.Proofs.Ytadgaphgomagkaa
set_option maxHeartbeats 4000000
set_option maxRecDepth 100000

section
variable {α : Type} {lt : α → α → Bool}
/-- strictly sorted -/
def Str (lt : α → α → Bool) (R : List α) : Prop := R.Pairwise fun a b => lt a b = true
/-- a row without doubles: of each class its first -/
structure Norm (lt : α → α → Bool) (X R : List α) : Prop where
  str : Str lt R
  cls : ∀ x, R.filter (eqv lt x) = (X.filter (eqv lt x)).take 1
theorem eqv_self (hw : Wk lt) (x : α) : eqv lt x x = true := by simp [eqv, hw.irr]
theorem eqv_iff (x y : α) : eqv lt x y = true ↔ lt x y = false ∧ lt y x = false := by simp [eqv]
theorem eqv_trans (hw : Wk lt) {x y z : α} (h1 : eqv lt x y = true) (h2 : eqv lt y z = true) : eqv lt x z = true := by
  rw [eqv_iff] at *
  exact ⟨hw.neg _ _ _ h1.1 h2.1, hw.neg _ _ _ h2.2 h1.2⟩
theorem eqv_symm {x y : α} (h : eqv lt x y = true) : eqv lt y x = true := by
  rw [eqv_iff] at *
  exact ⟨h.2, h.1⟩
theorem take1_append (a b : List α) : (a.take 1 ++ b).take 1 = (a ++ b).take 1 := by
  cases a <;> simp
theorem take1_append' (a b : List α) : (a ++ b.take 1).take 1 = (a ++ b).take 1 := by
  cases a with
  | nil => simp [List.take_take]
  | cons x r => simp
theorem Str.eq (hw : Wk lt) : ∀ (R R' : List α), Str lt R → Str lt R' → (∀ x, R.filter (eqv lt x) = R'.filter (eqv lt x)) → R = R'
  | [], [], _, _, _ => rfl
  | [], b :: r, _, _, h => by
    have := h b
    simp [eqv_self hw] at this
  | a :: r, [], _, _, h => by
    have := h a
    simp [eqv_self hw] at this
  | a :: r, b :: r', h1, h2, h => by
    have s1 := List.pairwise_cons.1 h1
    have s2 := List.pairwise_cons.1 h2
    have hle : ∀ {a b : α} {r r' : List α}, (∀ x, (a :: r).filter (eqv lt x) = (b :: r').filter (eqv lt x)) → (∀ y ∈ r', lt b y = true) → lt a b = false := fun {a b r r'} h s => by
      have h3 : a ∈ (b :: r').filter (eqv lt a) := by rw [← h a]; simp [eqv_self hw]
      rcases List.mem_cons.1 (List.mem_filter.1 h3).1 with e | e
      · rw [e]; exact hw.irr _
      · exact hw.asy _ _ (s a e)
    have q1 := hle h s2.1
    have q2 := hle (fun x => (h x).symm) s1.1
    have hab : eqv lt a b = true := by rw [eqv_iff]; exact ⟨q1, q2⟩
    have hnil : ∀ {a : α} {r : List α} (x : α), eqv lt x a = true → (∀ y ∈ r, lt a y = true) → r.filter (eqv lt x) = [] := fun {a r} x hx s => by
      rw [List.filter_eq_nil_iff]
      intro y hy hxy
      have h3 := eqv_trans hw (eqv_symm hx) hxy
      rw [eqv_iff, s y hy] at h3
      cases h3.1
    have e1 : (a :: r).filter (eqv lt a) = [a] := by rw [List.filter_cons_of_pos (eqv_self hw a), hnil a (eqv_self hw a) s1.1]
    have e2 : (b :: r').filter (eqv lt a) = [b] := by rw [List.filter_cons_of_pos hab, hnil a hab s2.1]
    have e3 : a = b := by
      have := h a
      rw [e1, e2] at this
      exact (List.cons.inj this).1
    subst e3
    rw [Str.eq hw r r' s1.2 s2.2 fun x => ?_]
    by_cases hx : eqv lt x a = true
    · rw [hnil x hx s1.1, hnil x hx s2.1]
    · have := h x
      rwa [List.filter_cons_of_neg hx, List.filter_cons_of_neg hx] at this
theorem Norm.uniq (hw : Wk lt) {X R R' : List α} (h : Norm lt X R) (h' : Norm lt X R') : R = R' := Str.eq hw R R' h.str h'.str fun x => (h.cls x).trans (h'.cls x).symm
/-- two sorted rows merged -/
def two (lt : α → α → Bool) : List α → List α → List α
  | [], b => b
  | a :: r, [] => a :: r
  | a :: r, b :: r' => if lt a b = true then a :: two lt r (b :: r') else if lt b a = true then b :: two lt (a :: r) r' else a :: two lt r r'
termination_by a b => a.length + b.length
theorem two_mem : ∀ (a b : List α) (x : α), x ∈ two lt a b → x ∈ a ∨ x ∈ b
  | [], b, x, h => by rw [two] at h; exact .inr h
  | a :: r, [], x, h => by rw [two] at h; exact .inl h
  | a :: r, b :: r', x, h => by
    rw [two] at h
    split at h
    · rcases List.mem_cons.1 h with e | e
      · exact .inl (by rw [e]; simp)
      · rcases two_mem r (b :: r') x e with e | e
        · exact .inl (by simp [e])
        · exact .inr e
    · split at h
      · rcases List.mem_cons.1 h with e | e
        · exact .inr (by rw [e]; simp)
        · rcases two_mem (a :: r) r' x e with e | e
          · exact .inl e
          · exact .inr (by simp [e])
      · rcases List.mem_cons.1 h with e | e
        · exact .inl (by rw [e]; simp)
        · rcases two_mem r r' x e with e | e
          · exact .inl (by simp [e])
          · exact .inr (by simp [e])
termination_by a b => a.length + b.length
theorem Str.take1 (hw : Wk lt) : ∀ {b : List α}, Str lt b → ∀ (x : α), (b.filter (eqv lt x)).take 1 = b.filter (eqv lt x)
  | [], _, x => rfl
  | a :: r, h, x => by
    have s1 := List.pairwise_cons.1 h
    by_cases hx : eqv lt x a = true
    · rw [List.filter_cons_of_pos hx, List.filter_eq_nil_iff.2 (fun y hy hxy => ?_)]
      · rfl
      · have h3 := eqv_trans hw (eqv_symm hx) hxy
        rw [eqv_iff, s1.1 y hy] at h3
        cases h3.1
    · rw [List.filter_cons_of_neg hx, Str.take1 hw s1.2 x]
theorem two_norm (hw : Wk lt) : ∀ (a b : List α), Str lt a → Str lt b → Str lt (two lt a b) ∧ ∀ x, (two lt a b).filter (eqv lt x) = (a.filter (eqv lt x) ++ b.filter (eqv lt x)).take 1
  | [], b, _, hb => by
    rw [two]
    refine ⟨hb, fun x => ?_⟩
    rw [List.filter_nil, List.nil_append]
    exact (Str.take1 hw hb x).symm
  | a :: r, [], ha, _ => by
    rw [two]
    refine ⟨ha, fun x => ?_⟩
    rw [List.filter_nil, List.append_nil]
    exact (Str.take1 hw ha x).symm
  | a :: r, b :: r', ha, hb => by
    have s1 := List.pairwise_cons.1 ha
    have s2 := List.pairwise_cons.1 hb
    have hout : ∀ {c : α} {l : List α} (x : α), (∀ y ∈ l, lt c y = true) → eqv lt x c = true → l.filter (eqv lt x) = [] := fun {c l} x s hx => by
      rw [List.filter_eq_nil_iff]
      intro y hy hxy
      have h3 := eqv_trans hw (eqv_symm hx) hxy
      rw [eqv_iff, s y hy] at h3
      cases h3.1
    rw [two]
    split
    · rename_i hab
      obtain ⟨i1, i2⟩ := two_norm hw r (b :: r') s1.2 hb
      have hall : ∀ y ∈ b :: r', lt a y = true := fun y hy => by
        rcases List.mem_cons.1 hy with e | e
        · rw [e]; exact hab
        · exact hw.tr hab (s2.1 y e)
      refine ⟨List.pairwise_cons.2 ⟨fun y hy => ?_, i1⟩, fun x => ?_⟩
      · rcases two_mem _ _ _ hy with e | e
        · exact s1.1 y e
        · exact hall y e
      · by_cases hx : eqv lt x a = true
        · rw [List.filter_cons_of_pos hx, List.filter_cons_of_pos hx, i2 x, hout x s1.1 hx, hout x hall hx]
          simp
        · rw [List.filter_cons_of_neg hx, List.filter_cons_of_neg hx, i2 x]
    · rename_i hab
      split
      · rename_i hba
        obtain ⟨i1, i2⟩ := two_norm hw (a :: r) r' ha s2.2
        have hall : ∀ y ∈ a :: r, lt b y = true := fun y hy => by
          rcases List.mem_cons.1 hy with e | e
          · rw [e]; exact hba
          · exact hw.tr hba (s1.1 y e)
        refine ⟨List.pairwise_cons.2 ⟨fun y hy => ?_, i1⟩, fun x => ?_⟩
        · rcases two_mem _ _ _ hy with e | e
          · exact hall y e
          · exact s2.1 y e
        · by_cases hx : eqv lt x b = true
          · rw [List.filter_cons_of_pos hx, List.filter_cons_of_pos (l := r') hx, i2 x, hout x s2.1 hx, hout x hall hx]
            simp
          · rw [List.filter_cons_of_neg hx, List.filter_cons_of_neg (l := r') hx, i2 x]
      · rename_i hba
        have hE : eqv lt a b = true := by rw [eqv_iff]; exact ⟨(Bool.not_eq_true _).mp hab, (Bool.not_eq_true _).mp hba⟩
        obtain ⟨i1, i2⟩ := two_norm hw r r' s1.2 s2.2
        refine ⟨List.pairwise_cons.2 ⟨fun y hy => ?_, i1⟩, fun x => ?_⟩
        · rcases two_mem _ _ _ hy with e | e
          · exact s1.1 y e
          · exact hw.le_lt ((Bool.not_eq_true _).mp hba) (s2.1 y e)
        · by_cases hx : eqv lt x a = true
          · rw [List.filter_cons_of_pos hx, List.filter_cons_of_pos hx, i2 x, hout x s1.1 hx, hout x s2.1 (eqv_trans hw hx hE), List.filter_cons_of_pos (eqv_trans hw hx hE)]
            simp
          · have hxb : ¬ eqv lt x b = true := fun h => hx (eqv_trans hw h (eqv_symm hE))
            rw [List.filter_cons_of_neg hx, List.filter_cons_of_neg hx, i2 x, List.filter_cons_of_neg hxb]
termination_by a b => a.length + b.length
end
end Go.Proofs.Ytadgaphgomagkaa
/- Lists of facts merged: the plain law, over facts and over what they say. -/
namespace Go.Proofs.Ytadgaphgomagkaa
set_option maxHeartbeats 4000000
set_option maxRecDepth 100000

def ltV (a b : FV) : Bool := ltF a.fm b.fm
theorem ltV_wk : Wk ltV := ⟨fun _ => ltF_wk.irr _, fun _ _ _ => ltF_wk.neg _ _ _, fun _ _ => ltF_wk.asy _ _⟩
theorem ltF_fv (a b : FM) : ltF a b = ltV a.fv b.fv := by
  rw [Bool.eq_iff_iff]
  unfold ltV
  rw [ltF_iff, ltF_iff]
  exact Iff.rfl
theorem eqvF_fv (x a : FM) : eqv ltF x a = eqv ltV x.fv a.fv := by
  unfold eqv
  rw [ltF_fv, ltF_fv]
theorem Norm.fv {X R : List FM} (h : Norm ltF X R) : Norm ltV (X.map FM.fv) (R.map FM.fv) := by
  refine ⟨?_, fun x => ?_⟩
  · unfold Str
    rw [List.pairwise_map]
    exact h.str.imp fun {a b} hab => by rw [← ltF_fv]; exact hab
  · have e : ∀ L : List FM, (L.map FM.fv).filter (eqv ltV x) = (L.filter (eqv ltF x.fm)).map FM.fv := fun L => by
      rw [List.filter_map]
      congr 2
    rw [e, e, h.cls, List.map_take]
theorem norm_nil {α : Type} (lt : α → α → Bool) : Norm lt ([] : List α) [] := ⟨List.Pairwise.nil, fun _ => rfl⟩
theorem Norm.two {α : Type} {lt : α → α → Bool} (hw : Wk lt) {X a b : List α} (h : Norm lt X a) (hb : Str lt b) : Norm lt (X ++ b) (two lt a b) := by
  obtain ⟨h1, h2⟩ := two_norm hw a b h.str hb
  refine ⟨h1, fun x => ?_⟩
  rw [h2, h.cls, take1_append, List.filter_append]
theorem Norm.left {α : Type} {lt : α → α → Bool} {X a Y R : List α} (h : Norm lt X a) (hr : Norm lt (a ++ Y) R) : Norm lt (X ++ Y) R := by
  refine ⟨hr.str, fun x => ?_⟩
  rw [hr.cls, List.filter_append, h.cls, take1_append, List.filter_append]
theorem Norm.right {α : Type} {lt : α → α → Bool} {X a Y R : List α} (h : Norm lt X a) (hr : Norm lt (Y ++ a) R) : Norm lt (Y ++ X) R := by
  refine ⟨hr.str, fun x => ?_⟩
  rw [hr.cls, List.filter_append, h.cls, take1_append', List.filter_append]
theorem rightF_str : ∀ L : List FM, rightF L = true → Str ltF L
  | [], _ => List.Pairwise.nil
  | [a], _ => List.pairwise_singleton _ _
  | a :: b :: r, h => by
    rw [rightF_cons, Bool.and_eq_true] at h
    have ih := rightF_str (b :: r) h.2
    refine List.pairwise_cons.2 ⟨fun y hy => ?_, ih⟩
    rcases List.mem_cons.1 hy with e | e
    · rw [e]; exact h.1
    · exact ltF_wk.tr h.1 ((List.pairwise_cons.1 ih).1 y e)
theorem str_rightF : ∀ L : List FM, Str ltF L → rightF L = true
  | [], _ => rfl
  | [a], _ => rfl
  | a :: b :: r, h => by
    have s1 := List.pairwise_cons.1 h
    rw [rightF_cons, Bool.and_eq_true]
    exact ⟨s1.1 b (by simp), str_rightF (b :: r) s1.2⟩
theorem Str.fv {L : List FM} : Str ltF L ↔ Str ltV (L.map FM.fv) := by
  unfold Str
  rw [List.pairwise_map]
  exact ⟨fun h => h.imp fun {a b} hab => by rw [← ltF_fv]; exact hab, fun h => h.imp fun {a b} hab => by rw [ltF_fv]; exact hab⟩
theorem cpt_mem (f : Nat → FM) : ∀ n x, x ∈ cpt f n → ∃ j, j < n ∧ f j = x
  | 0, x, h => by simp [cpt] at h
  | n + 1, x, h => by
    rw [cpt, List.mem_append] at h
    rcases h with h | h
    · obtain ⟨j, h1, h2⟩ := cpt_mem f n x h
      exact ⟨j, by omega, h2⟩
    · split at h
      · exact ⟨n, by omega, (List.mem_singleton.1 h).symm⟩
      · simp at h
theorem cpt_norm (f : Nat → FM) : ∀ n, Srt ltF f 0 n → Norm ltF (Lf f 0 n) (cpt f n)
  | 0, _ => norm_nil _
  | n + 1, hs => by
    have ih := cpt_norm f n (hs.sub (Nat.le_refl _) (Nat.le_succ _))
    have hL : Lf f 0 (n + 1) = Lf f 0 n ++ [f n] := by rw [Lf_add]; simp [Lf]
    rw [hL]
    by_cases hk : keepAt f n = true
    · have hall : ∀ j, j < n → ltF (f j) (f n) = true := fun j hj => by
        have hne : ¬ eqF (f n) (f (n - 1)) = true := by
          unfold keepAt at hk
          rw [Bool.or_eq_true] at hk
          rcases hk with h | h
          · simp at h; omega
          · simpa using h
        have h1 : ltF (f n) (f (n - 1)) = false := hs.le ltF_wk (Nat.zero_le _) (by omega) (by omega)
        have h2 : ltF (f (n - 1)) (f n) = true := by
          rw [eqF_eqv, eqv_iff] at hne
          cases e : ltF (f (n - 1)) (f n)
          · exact absurd ⟨h1, e⟩ hne
          · rfl
        exact ltF_wk.le_lt (hs.le ltF_wk (Nat.zero_le _) (by omega) (by omega)) h2
      have hno : ∀ x, eqv ltF x (f n) = true → ∀ j, j < n → ¬ eqv ltF x (f j) = true := fun x hx j hj h => by
        have h3 := eqv_trans ltF_wk (eqv_symm h) hx
        rw [eqv_iff, hall j hj] at h3
        cases h3.1
      have e : cpt f (n + 1) = cpt f n ++ [f n] := by rw [cpt, if_pos hk]
      rw [e]
      refine ⟨?_, fun x => ?_⟩
      · unfold Str
        rw [List.pairwise_append]
        refine ⟨ih.str, List.pairwise_singleton _ _, fun a ha b hb => ?_⟩
        obtain ⟨j, hj, rfl⟩ := cpt_mem f n a ha
        rw [List.mem_singleton.1 hb]
        exact hall j hj
      · rw [List.filter_append, List.filter_append]
        by_cases hx : eqv ltF x (f n) = true
        · have n1 : (cpt f n).filter (eqv ltF x) = [] := List.filter_eq_nil_iff.2 fun a ha => by
            obtain ⟨j, hj, rfl⟩ := cpt_mem f n a ha
            exact hno x hx j hj
          have n2 : (Lf f 0 n).filter (eqv ltF x) = [] := List.filter_eq_nil_iff.2 fun a ha => by
            obtain ⟨j, _, hj, rfl⟩ := Lf_mem.1 ha
            exact hno x hx j (by omega)
          rw [n1, n2]
          simp [hx]
        · have e2 : ([f n] : List FM).filter (eqv ltF x) = [] := by simp [hx]
          rw [e2, List.append_nil, List.append_nil, ih.cls]
    · have e : cpt f (n + 1) = cpt f n := by rw [cpt, if_neg hk, List.append_nil]
      rw [e]
      refine ⟨ih.str, fun x => ?_⟩
      rw [ih.cls, List.filter_append]
      by_cases hx : eqv ltF x (f n) = true
      · have hn : 0 < n ∧ eqF (f n) (f (n - 1)) = true := by
          unfold keepAt at hk
          rw [Bool.or_eq_true] at hk
          refine ⟨?_, ?_⟩
          · rcases Nat.eq_zero_or_pos n with h | h
            · exact absurd (.inl (by simp [h])) hk
            · exact h
          · cases h : eqF (f n) (f (n - 1))
            · exact absurd (.inr (by simp [h])) hk
            · rfl
        have hm : f (n - 1) ∈ (Lf f 0 n).filter (eqv ltF x) := by
          rw [List.mem_filter]
          exact ⟨Lf_mem.2 ⟨n - 1, by omega, by omega, rfl⟩, eqv_trans ltF_wk hx (by rw [← eqF_eqv]; exact hn.2)⟩
        cases hq : (Lf f 0 n).filter (eqv ltF x) with
        | nil => rw [hq] at hm; simp at hm
        | cons y r => simp
      · have e2 : ([f n] : List FM).filter (eqv ltF x) = [] := by simp [hx]
        rw [e2, List.append_nil]
/-- sorted by a stable turn, doubles dropped -/
theorem merged_norm {f h : Nat → FM} {n : Nat} (hs : Stb ltF n 0 n f h) (ho : Srt ltF h 0 n) : Norm ltF (Lf f 0 n) (cpt h n) := by
  have h1 := cpt_norm h n ho
  exact ⟨h1.str, fun x => by rw [h1.cls, hs.cls]⟩
/-- lists merged by two and two -/
theorem fold_norm {α : Type} {lt : α → α → Bool} (hw : Wk lt) : ∀ (ll : List (List α)) (X a : List α), Norm lt X a → (∀ l ∈ ll, Str lt l) → Norm lt (X ++ ll.flatten) (ll.foldl (two lt) a)
  | [], X, a, h, _ => by simpa using h
  | l :: r, X, a, h, hs => by
    have := fold_norm hw r (X ++ l) (two lt a l) (h.two hw (hs l (by simp))) fun q hq => hs q (by simp [hq])
    simpa using this
end Go.Proofs.Ytadgaphgomagkaa
/- Facts sorted and without doubles: no facts; a row that a call owns. -/
namespace Go.Proofs.Ytadgaphgomagkaa
open Go.RowKit
set_option maxHeartbeats 8000000
set_option maxRecDepth 100000

theorem insertion_nil (w : World) : Calls Try.prog 110 #[.slice none 0 0, .int .i64 0, .int .i64 0, .func (.func 44) #[] #[]] w fun e w' => e = .returned (.tuple #[]) ∧ w' = w := by
  go_enter Try.func110, Try.ntmps110
  go_wp2_with fail
  go_loopg [8, 9] 1 (fun m s8 s9 wr => m = 1 ∧ s8 = .int .i64 1 ∧ wr = w)
  case atStart => exact ⟨rfl, rfl, rfl⟩
  case round =>
    obtain ⟨rfl, rfl, rfl⟩ := hrel
    go_wp2_with fail
    go_end0
    exact ⟨rfl, rfl⟩
theorem stable_nil (w : World) : Calls Try.prog 107 #[.slice none 0 0, .int .i64 0, .func (.func 44) #[] #[]] w fun e w' => e = .returned (.tuple #[]) ∧ w' = w := by
  have hi := insertion_nil w
  go_enter Try.func107, Try.ntmps107
  go_wp2_with fail
  go_loopg [7, 8] 1 (fun m s7 s8 wr => m = 1 ∧ s7 = .int .i64 0 ∧ s8 = .int .i64 20 ∧ wr = w)
  case atStart => exact ⟨rfl, rfl, rfl, rfl⟩
  case round =>
    obtain ⟨rfl, rfl, rfl, rfl⟩ := hrel
    go_wp2_with fail
    refine hi.mono ?_
    rintro e w2 ⟨rfl, rfl⟩
    clear hi
    go_wp2_with fail
    go_loopg [6, 7, 8, 9] 1 (fun m s6 s7 s8 s9 wr => m = 1 ∧ s6 = .int .i64 20 ∧ wr = w2)
    case atStart => exact ⟨rfl, rfl, rfl⟩
    case round =>
      obtain ⟨rfl, rfl, rfl⟩ := hrel
      go_wp2_with fail
      go_end0
      exact ⟨rfl, rfl⟩
theorem sortStable_nil (w : World) : Calls Try.prog 90 #[.slice none 0 0, .func (.func 44) #[] #[]] w fun e w' => e = .returned (.tuple #[]) ∧ w' = w := by
  have hs := stable_nil w
  go_enter Try.func90, Try.ntmps90
  go_wp2_with fail
  refine hs.mono ?_
  rintro e w2 ⟨rfl, rfl⟩
  go_wp2_with fail
  go_end0
  exact ⟨rfl, rfl⟩
theorem compact_nil (w : World) : Calls Try.prog 91 #[.slice none 0 0, .func (.func 92) #[] #[]] w fun e w' => e = .returned (.slice none 0 0) ∧ w' = w := by
  go_enter Try.func91, Try.ntmps91
  go_wp2_with fail
  go_ret
  exact ⟨rfl, rfl⟩
end Go.Proofs.Ytadgaphgomagkaa
/- A row that a call owns: sorted, doubles dropped. -/
namespace Go.Proofs.Ytadgaphgomagkaa
open Go.RowKit
set_option maxHeartbeats 4000000
set_option maxRecDepth 100000

def SortedP (w : World) (B : Nat) (A : Option Addr) (c : Nat) (L : List FM) (w1 : World) : Prop :=
  (A = none ∧ c = 0 ∧ L = [] ∧ w1 = w) ∨ ∃ (g : Nat) (f h : Nat → FM), A = some ⟨g, 0, none⟩ ∧ B ≤ g ∧ g < w.heap.size ∧ Lf f 0 L.length = L ∧ Arr w1 g (c * 3) L.length h ∧ Stb ltF L.length 0 L.length f h ∧ Srt ltF h 0 L.length ∧ But g w w1 ∧ L.length ≤ c ∧ c ≤ maxLen
theorem Lf_of {α : Type} (L : List α) (d : α) : Lf (fun i => L.getD i d) 0 L.length = L := by
  apply List.ext_getElem
  · rw [Lf_length]
  · intro i h1 h2
    simp [Lf, List.getElem?_eq_getElem h2]
theorem Arr.rd {W : World} {g N n : Nat} {f : Nat → FM} (h : Arr W g N n f) : Rd W (some ⟨g, 0, none⟩) (fcells (Lf f 0 n)) := fun _ => by
  obtain ⟨cur, hb, _, _, ht⟩ := h.ex
  refine ⟨_, rfl, hb.lt, fun j u hu => ?_⟩
  have e : (⟨g, 0, none⟩ : Addr).add j = ⟨g, j, none⟩ := by unfold Addr.add; split <;> simp_all
  rw [e, hb.cell]
  rw [← ht, List.getElem?_take] at hu
  split at hu
  · rw [← Array.getElem?_toList]; exact hu
  · cases hu
theorem sort_own {w : World} {B : Nat} {A : Option Addr} {c : Nat} {L : List FM} (hF : Facts w B A c L) (hn : L.length ≤ 1099511627776) :
    Calls Try.prog 90 #[.slice A L.length c, .func (.func 44) #[] #[]] w fun e w1 => e = .returned (.tuple #[]) ∧ SortedP w B A c L w1 := by
  rcases hF.own.2 with ⟨h0, h1⟩ | ⟨g, cap, cur, h0, hg1, hg2, hg3, hg4, hg5, hg6⟩
  · injection h0 with e1 e2 e3
    have hL : L = [] := List.eq_nil_of_length_eq_zero h1
    subst e1 e3 hL
    exact (sortStable_nil w).mono fun e w1 ⟨h1, h2⟩ => ⟨h1, .inl ⟨rfl, rfl, rfl, h2⟩⟩
  · injection h0 with e1 e2 e3
    subst e1 e3
    have hlf := Lf_of L ⟨⟨#[]⟩, 0, none, 0, []⟩
    generalize (fun i => L.getD i (⟨⟨#[]⟩, 0, none, 0, []⟩ : FM)) = f at hlf
    have hA : Arr w g (c * 3) L.length f := ⟨cur, hg2, hg5, by omega, by rw [hlf]; exact hg6⟩
    refine (sortStable_any g (c * 3) L.length c f w hA hn).mono ?_
    rintro e w1 ⟨h1, h, hA1, ⟨h2, h3⟩, hb⟩
    exact ⟨h1, .inr ⟨g, f, h, rfl, hg1, hA.lt, hlf, hA1, h2, h3, hb, hg3, hg4⟩⟩
theorem compact_own {w w1 : World} {B : Nat} {A : Option Addr} {c : Nat} {L : List FM} (hF : Facts w B A c L) (hS : SortedP w B A c L w1) (hn : L.length ≤ 1099511627776) :
    Calls Try.prog 91 #[.slice A L.length c, .func (.func 92) #[] #[]] w1 fun e w2 => ∃ R : List FM, e = .returned (.slice A R.length c) ∧ Rd w2 A (fcells R) ∧ (∀ x ∈ R, x.ok w2) ∧ Norm ltF L R ∧ R.length ≤ L.length ∧ Below B w w2 := by
  rcases hS with ⟨rfl, rfl, rfl, rfl⟩ | ⟨g, f, h, rfl, hBg, hgw, hlf, hA, hst, hsr, hbt, hnc, hc⟩
  · exact (compact_nil w1).mono fun e w2 ⟨h1, h2⟩ => ⟨[], h1, Rd.none_, by simp, norm_nil _, Nat.le_refl _, h2 ▸ Below.refl _ _⟩
  · refine (compact_any g (c * 3) L.length c h w1 hA hnc hn).mono ?_
    rintro e w2 ⟨h1, ⟨h', hA2, hlf2⟩, hbt2⟩
    have hb2 := hbt.trans hbt2
    refine ⟨cpt h L.length, h1, by rw [← hlf2]; exact hA2.rd, fun x hx => ?_, ?_, cpt_len _ _, ?_⟩
    · obtain ⟨j, hj, rfl⟩ := cpt_mem h _ x hx
      obtain ⟨k, _, hk, e2⟩ := hst.src j (Nat.zero_le _) hj
      have hm : h j ∈ L := by
        rw [e2, ← hlf]
        exact Lf_mem.2 ⟨k, Nat.zero_le _, by omega, rfl⟩
      refine (hF.ok _ hm).but hb2 fun ad had hg => hF.ap _ hm ad had ?_
      rw [hg]
      rfl
    · have := merged_norm hst hsr
      rwa [hlf] at this
    · exact (hb2.below_of (Nat.le_of_lt hgw)).mono hBg
end Go.Proofs.Ytadgaphgomagkaa
/- Lists of facts; fact.Merge. -/
namespace Go.Proofs.Ytadgaphgomagkaa
open Go.RowKit
set_option maxHeartbeats 8000000
set_option maxRecDepth 100000

/-- one list of facts, as memory has it -/
structure LM where
  A : Option Addr
  c : Nat
  L : List FM
def LM.val (m : LM) : Value := .slice m.A m.L.length m.c
def LM.ok (m : LM) (w : World) : Prop := Rd w m.A (fcells m.L) ∧ ∀ f ∈ m.L, f.ok w
def catF (ll : List LM) : List FM := ll.flatMap LM.L
def catV (ll : List LM) : List FV := (catF ll).map FM.fv
def rightL (ll : List LM) : Bool := ll.all fun m => rightF m.L
theorem LM.ok.below {m : LM} {w w' : World} (h : m.ok w) (hb : Below w.heap.size w w') : m.ok w' := ⟨h.1.below hb, fun f hf => (h.2 f hf).below hb⟩
theorem catF_take (ll : List LM) (i : Nat) (h : i < ll.length) : catF (ll.take (i + 1)) = catF (ll.take i) ++ ll[i].L := by
  unfold catF
  rw [List.take_succ_eq_append_getElem h, List.flatMap_append]
  congr 1
  exact List.append_nil _
theorem catF_len (ll : List LM) (i : Nat) (h : i < ll.length) : (catF (ll.take i)).length + ll[i].L.length ≤ (catF ll).length := by
  have h1 : (catF (ll.take (i + 1))).length ≤ (catF ll).length := by
    conv => rhs; rw [← List.take_append_drop (i + 1) ll]
    unfold catF
    rw [List.flatMap_append, List.length_append]
    omega
  rw [catF_take ll i h, List.length_append] at h1
  exact h1
def MergePost (w : World) (ll : List LM) (e : Ending) (w' : World) : Prop := Below w.heap.size w w' ∧
  if rightL ll = true then ∃ A c R, e = .returned (.tuple #[.slice A R.length c, .int .i64 0]) ∧ Rd w' A (fcells R) ∧ (∀ f ∈ R, f.ok w') ∧ Norm ltV (catV ll) (R.map FM.fv) ∧ R.length ≤ (catF ll).length
  else e = .returned (.tuple #[.slice none 0 0, .int .i64 25])
theorem merge_any (A : Option Addr) (c : Nat) (ll : List LM) (w : World) (hr : Rd w A (ll.map LM.val)) (hok : ∀ m ∈ ll, m.ok w) (hn : (catF ll).length ≤ 1048576) (hll : ll.length ≤ 1048576) :
    Calls Try.prog 47 #[.slice A ll.length c] w (MergePost w ll) := by
  go_enter Try.func47, Try.ntmps47
  go_wp2_with fail
  go_loopg [4, 6, 11] ll.length (fun m s4 s6 s11 wr => ∃ (i : Nat) (A' : Option Addr) (c' : Nat) (L : List FM), m = ll.length - i ∧ i ≤ ll.length ∧ s11 = .int .i64 (i : Nat) ∧ s4 = .slice A' L.length c' ∧ Facts wr w.heap.size A' c' L ∧ L.map FM.fv = (catF (ll.take i)).map FM.fv ∧ (∀ m ∈ ll.take i, rightF m.L = true) ∧ Below w.heap.size w wr)
  case atStart => exact ⟨0, none, 0, [], by omega, by omega, rfl, rfl, Facts.nil _ _, rfl, by simp, Below.refl _ _⟩
  case round =>
    obtain ⟨i, A', c', L, rfl, hi, rfl, rfl, hF, hL, hri, hb⟩ := hrel
    by_cases hlt : i < ll.length
    · have r1 : (i : Int) < (ll.length : Int) := by omega
      obtain ⟨ad, rfl, hadb, hcell0⟩ := hr.at_ (k := i) (by simpa using hlt)
      have hcell : wr.cell? (ad.add i) = some (.slice ll[i].A ll[i].L.length ll[i].c) := by
        rw [hb.cell (p := ad.add i) (by rw [add_block]; exact hadb), hcell0]
        simp [LM.val]
      have hm0 := hok _ (List.getElem_mem hlt)
      have hm := hm0.below hb
      have hcl := catF_len ll i hlt
      have hct := catF_take ll i hlt
      have hmem : ∀ m ∈ ll.take (i + 1), m ∈ ll.take i ∨ m = ll[i] := fun m hm => by
        rw [List.take_succ_eq_append_getElem hlt] at hm
        rcases List.mem_append.1 hm with h | h
        · exact .inl h
        · exact .inr (List.mem_singleton.1 h)
      have hin := List.getElem_mem hlt
      generalize ll[i] = q at *
      obtain ⟨qA, qc, M⟩ := q
      simp only at *
      have hRa := right_any qA qc M wr hm.1 (by omega)
      go_wp2_with fail
      refine hRa.mono ?_
      rintro e w2 ⟨rfl, hb2⟩
      clear hRa
      cases hR : rightF M with
      | false =>
        have hRL : rightL ll = false := by
          cases h : rightL ll
          · rfl
          · unfold rightL at h
            rw [List.all_eq_true] at h
            have := h _ hin
            rw [hR] at this
            cases this
        have HR := Lib.hid hRL
        clear hRL
        go_wp2_with fail
        go_ret2
        exact ⟨hb.trans (hb2.mono hb.size), by rw [HR.out]; rfl⟩
      | true =>
        have hF2 := hF.below hb2
        have hb02 := hb.trans (hb2.mono hb.size)
        clear hF hb hm hb2 hcell hcell0
        generalize w2 = wa at *
        go_wp2_with fail
        go_loopg [4, 8, 20] M.length (fun m s4 s8 s20 wr => ∃ (j : Nat) (A' : Option Addr) (c' : Nat) (L : List FM), m = M.length - j ∧ j ≤ M.length ∧ s20 = .int .i64 (j : Nat) ∧ s4 = .slice A' L.length c' ∧ Facts wr w.heap.size A' c' L ∧ L.map FM.fv = (catF (ll.take i) ++ M.take j).map FM.fv ∧ Below w.heap.size w wr)
        case atStart => exact ⟨0, A', c', L, by omega, by omega, rfl, rfl, hF2, by rw [hL]; simp, hb02⟩
        case round =>
          clear hF2 hL hb02
          obtain ⟨j, A', c', L, rfl, hj, rfl, rfl, hF, hL, hb⟩ := hrel
          have hm3 := hm0.below hb
          by_cases hjt : j < M.length
          · have r2 : (j : Int) < (M.length : Int) := by omega
            obtain ⟨am, hqA, z0, z1, z2⟩ := facts_at hm3.1 j hjt
            simp only at hqA
            subst hqA
            have hfo := hm3.2 _ (List.getElem_mem hjt)
            have htk : M.take (j + 1) = M.take j ++ [M[j]] := List.take_succ_eq_append_getElem hjt
            have hLl : L.length ≤ 1048576 := by
              have := congrArg List.length hL
              simp only [List.length_map, List.length_append, List.length_take] at this
              omega
            generalize M[j] = f at *
            have hx := (Below.refl wr.heap.size wr).alloc (Nat.le_refl _) (.cells #[.string f.k, .int .u64 (f.s : Nat), .slice f.A f.l.length f.c] 71)
            have hB := Blk.new wr 71 #[.string f.k, .int .u64 (f.s : Nat), .slice f.A f.l.length f.c]
            have hFx := hF.below hx
            have hbx := hb.trans (hx.mono hb.size)
            have hap := apart_any f (wr.alloc (.cells #[.string f.k, .int .u64 (f.s : Nat), .slice f.A f.l.length f.c] 71)) (hfo.below hx)
            have d0 := hB.cell 0
            have d1 := hB.cell 1
            have d2 := hB.cell 2
            simp only [FM.val] at hap
            have hzero := Blk.new wr 71 #[.string ⟨#[]⟩, .int .u64 0, .slice none 0 0]
            have e0 := hzero.cell 0
            have e1 := hzero.cell 1
            have e2 := hzero.cell 2
            have y0 := hzero.frozen 0
            have y1 := hzero.frozen 1
            have y2 := hzero.frozen 2
            go_wp2_with fail
            refine hap.mono ?_
            rintro e w3 ⟨A3, c3, rfl, ho3, hb3⟩
            have hM : FM.ok ⟨f.k, f.s, A3, c3, f.l⟩ w3 := ⟨Rd.of_own ho3, (own_cap ho3).1, hfo.few, hfo.seq, hfo.key⟩
            have hMl : ∀ ad, A3 = some ad → wr.heap.size ≤ ad.block ∧ ad.block < w3.heap.size := fun ad h => ⟨Nat.le_trans hx.size ((own_cap ho3).2.2 ad h).1, ((own_cap ho3).2.2 ad h).2⟩
            have hap3 : ∀ ad, A3 = some ad → (Value.slice A' L.length c').ownBlock ≠ some ad.block := fun ad h e2 => by
              have h1 := (hF.own.lt _ e2).2
              have h2 := (hMl ad h).1
              omega
            have hx3 := (Below.refl w3.heap.size w3).alloc (Nat.le_refl _) (.cells #[.string f.k, .int .u64 (f.s : Nat), .slice A3 f.l.length c3] 71)
            have hM3 := hM.below hx3
            have hMl3 : ∀ ad, A3 = some ad → wr.heap.size ≤ ad.block ∧ ad.block < (w3.alloc (.cells #[.string f.k, .int .u64 (f.s : Nat), .slice A3 f.l.length c3] 71)).heap.size := fun ad h => ⟨(hMl ad h).1, Nat.lt_of_lt_of_le (hMl ad h).2 hx3.size⟩
            have hF3 := (hFx.below hb3).below hx3
            have hb03 := (hbx.trans (hb3.mono hbx.size)).trans (hx3.mono (hbx.trans (hb3.mono hbx.size)).size)
            have hws : w.heap.size ≤ wr.heap.size := hb.size
            clear hap hzero e0 e1 e2 y0 y1 y2 hFx ho3 hb3 hbx hx hB d0 d1 d2
            go_wp2_with (at_builtin; refine wpList_app _ rfl _ _ rfl slF w.heap.size (.slice A' L.length c') L.length (fcells L) rfl hF3.own _ 1 1 [.string f.k, .int .u64 (f.s : Nat), .slice A3 f.l.length c3] rfl rfl (Rd.many _ _ _) (by simp [Value.oneCell']) (by unfold maxLen; omega) (by omega) hb03.size ?_; intro A7 c7 w7 ho7 hg7)
            have hb7 := hb03.trans (hg7.under hF3.own (Nat.le_refl _) hb03.size)
            go_roundg (M.length - (j + 1))
            case measure => omega
            case rel =>
              refine ⟨j + 1, A7, c7, L ++ [⟨f.k, f.s, A3, c3, f.l⟩], rfl, hjt, by go_num, by rw [List.length_append]; rfl, hF3.app (M := [⟨f.k, f.s, A3, c3, f.l⟩]) (fun x hx => by rw [List.mem_singleton.1 hx]; exact hM3) (fun x hx ad h => by rw [List.mem_singleton.1 hx] at h; exact ⟨Nat.le_trans hws (hMl3 ad h).1, (hMl3 ad h).2⟩) (fun x hx ad h => by rw [List.mem_singleton.1 hx] at h; exact hap3 ad h) ho7 hg7, ?_, hb7⟩
              rw [List.map_append, hL, htk, ← List.append_assoc, List.map_append (l₂ := [f])]
              rfl
          · have r2 : ¬ (j : Int) < (M.length : Int) := by omega
            have hjM : j = M.length := by omega
            subst hjM
            rw [List.take_length, ← hct] at hL
            go_wp2_with fail
            go_roundg (ll.length - (i + 1))
            case measure => omega
            case rel => exact ⟨i + 1, A', c', L, rfl, hlt, by go_num, rfl, hF, hL, fun m hm => (hmem m hm).elim (hri m) fun e => by rw [e]; exact hR, hb⟩
    · have r1 : ¬ (i : Int) < (ll.length : Int) := by omega
      have hil : i = ll.length := by omega
      subst hil
      rw [List.take_length] at hL hri
      have hRL : rightL ll = true := List.all_eq_true.2 hri
      have hLn : Hid (L.length = (catF ll).length) := Lib.hid (by simpa using congrArg List.length hL)
      have hso := sort_own hF (by have := hLn.out; omega)
      have HR := Lib.hid hRL
      clear hRL
      go_wp2_with fail
      refine hso.mono ?_
      rintro e w2 ⟨rfl, hS⟩
      have hco := compact_own hF hS (by have := hLn.out; omega)
      go_wp2_with fail
      refine hco.mono ?_
      rintro e w3 ⟨R, rfl, h1, h2, h3, h4, h5⟩
      go_wp2_with fail
      go_ret2
      refine ⟨hb.trans h5, ?_⟩
      rw [HR.out]
      refine ⟨A', c', R, rfl, h1, h2, ?_, by have := hLn.out; omega⟩
      have := h3.fv
      rwa [hL] at this
end Go.Proofs.Ytadgaphgomagkaa
