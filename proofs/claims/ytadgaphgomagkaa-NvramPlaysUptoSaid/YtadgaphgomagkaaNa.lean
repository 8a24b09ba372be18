/- Plain: bytes and the writes laid over them. -/
namespace Go.Proofs.Ytadgaphgomagkaa
/-- bytes with so many writes done -/
def app (k : List UInt8) (L : List (Nat × UInt8)) : List UInt8 := L.foldl (fun b p => b.set p.1 p.2) k
theorem app_nil (k : List UInt8) : app k [] = k := rfl
theorem app_snoc (k : List UInt8) (L : List (Nat × UInt8)) (p : Nat × UInt8) : app k (L ++ [p]) = (app k L).set p.1 p.2 := by
  unfold app; rw [List.foldl_append]; rfl
theorem app_length (k : List UInt8) (L : List (Nat × UInt8)) : (app k L).length = k.length := by
  unfold app
  induction L generalizing k with
  | nil => rfl
  | cons p L ih => rw [List.foldl_cons, ih]; simp
theorem app_take (k : List UInt8) (L : List (Nat × UInt8)) (n : Nat) (hn : n < L.length) : app k (L.take (n + 1)) = (app k (L.take n)).set L[n].1 L[n].2 := by
  rw [List.take_succ_eq_append_getElem hn, app_snoc]
theorem app_append (k : List UInt8) (L M : List (Nat × UInt8)) : app k (L ++ M) = app (app k L) M := by
  unfold app; rw [List.foldl_append]
/-- a write taken back -/
theorem app_undo (k : List UInt8) (L : List (Nat × UInt8)) (n : Nat) (hn : n < L.length) (hb : L[n].1 < k.length) :
    (app k (L.take (n + 1))).set L[n].1 ((app k (L.take n))[L[n].1]'(by rw [app_length]; exact hb)) = app k (L.take n) := by
  rw [app_take k L n hn, List.set_set]
  exact List.set_getElem_self _
/-- the writes of a call -/
def puts (at_ : Nat) (l : List UInt8) : List (Nat × UInt8) := l.zipIdx.map fun p => (at_ + p.2, p.1)
theorem puts_length (a : Nat) (l : List UInt8) : (puts a l).length = l.length := by simp [puts]
theorem puts_snoc (a : Nat) (l : List UInt8) (k : Nat) (hk : k < l.length) : puts a (l.take (k + 1)) = puts a (l.take k) ++ [(a + k, l[k])] := by
  rw [List.take_succ_eq_append_getElem hk]
  unfold puts
  rw [List.zipIdx_append]
  simp [List.length_take, Nat.min_eq_left (Nat.le_of_lt hk)]
theorem puts_lt (a : Nat) (l : List UInt8) (n : Nat) (h : a + l.length ≤ n) : ∀ p ∈ puts a l, p.1 < n := by
  intro p hp
  unfold puts at hp
  obtain ⟨q, hq, rfl⟩ := List.mem_map.1 hp
  have := List.snd_lt_of_mem_zipIdx hq
  simp only
  omega
/-- how many writes a cut keeps -/
def keptW (p : List Int) (n : Nat) : Nat := match p with
  | x :: _ => if 0 ≤ x then x.toNat % (n + 1) else 0
  | [] => 0
theorem keptW_le (p : List Int) (n : Nat) : keptW p n ≤ n := by
  unfold keptW
  split
  · split
    · have := Nat.mod_lt (Int.toNat ‹_›) (show n + 1 > 0 by omega)
      omega
    · omega
  · omega
def firstPos : List Int → Bool
  | x :: _ => decide (0 ≤ x)
  | [] => false
theorem firstPos_nil {p : List Int} (h : p.length = 0) : firstPos p = false := by
  cases p with
  | nil => rfl
  | cons x r => simp at h
theorem firstPos_at {p : List Int} (h : 0 < p.length) : firstPos p = decide (0 ≤ p[0]) := by
  cases p with
  | nil => simp at h
  | cons x r => rfl
theorem firstPos_len {p : List Int} (h : firstPos p = true) : 0 < p.length := by
  cases p with
  | nil => simp [firstPos] at h
  | cons x r => simp
theorem keptW_false {p : List Int} (h : firstPos p = false) (n : Nat) : keptW p n = 0 := by
  cases p with
  | nil => rfl
  | cons x r =>
    have hx : ¬ 0 ≤ x := by simpa [firstPos] using h
    show (if 0 ≤ x then _ else _) = _
    rw [if_neg hx]
theorem keptW_true {p : List Int} (h : firstPos p = true) (n : Nat) : keptW p n = (p[0]'(firstPos_len h)).toNat % (n + 1) := by
  cases p with
  | nil => simp [firstPos] at h
  | cons x r =>
    have hx : 0 ≤ x := by simpa [firstPos] using h
    show (if 0 ≤ x then _ else _) = _
    rw [if_pos hx]
    rfl
def fitsB (n : Nat) (a m : Int) : Bool := decide (0 ≤ a) && decide (0 ≤ m) && decide (a ≤ (n : Int)) && decide (m ≤ (n : Int) - a)
end Go.Proofs.Ytadgaphgomagkaa
