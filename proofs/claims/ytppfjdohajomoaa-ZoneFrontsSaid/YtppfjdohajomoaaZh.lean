/- Drives on a power: Attach, New, Arm. -/
import Derived.Test.YtppfjdohajomoaaZg
import Derived.Laws.MakeOwn
namespace Go.Proofs.Ytppfjdohajomoaa
open Go.RowKit
set_option maxHeartbeats 4000000
set_option maxRecDepth 100000

theorem wpList_apz {P : Program} {w : World} {ops : Array Oper} {rest : List Oper} {o : Oper} {a : Act} {Q : Exit → Act → World → Prop} (hgd : o.guard = none) (s x : Operand) {t : TypeId}
    (ho : o.op = .call { callee := .builtin .append, args := #[s, x], argTypes := #[t, t] })
    {e : TypeId} {z : Value} {bytes : Nat} (S : SlT P t e z 1 bytes) (base : Nat) (A0 : Option Addr) (n c0 : Nat) (xs : List Value) (hs : a.eval s = .slice A0 n c0) (hap : Ap w base e 1 (.slice A0 n c0) n xs)
    (A : Option Addr) (u : Value) (hx : a.eval x = .slice A 1 1) (hr : Rd w A [u]) (h1 : u.oneCell' = true) (h63 : n + 1 ≤ maxLen) (hbytes : (n + 1) * bytes ≤ 140737488355328) (hbase : base ≤ w.heap.size)
    (h : ∀ A' c' w', w'.ownsRow base e 1 (.slice A' (n + 1) c') (n + 1) (xs ++ [u]) → Chg (fun k => ∃ ad, A0 = some ad ∧ k = ad.block) w w' → (∀ ad, A' = some ad → (∃ ad0, A0 = some ad0 ∧ ad.block = ad0.block) ∨ w.heap.size ≤ ad.block) →
      wpList P ops Q rest (a.put o.dst (.slice A' (n + 1) c')) w') : wpList P ops Q (o :: rest) a w := by
  refine wpList_plain hgd fun K hK => ?_
  obtain ⟨A', c', w', hrun, h2, h3, h4⟩ := run_apz (P := P) w S o.type base A0 n c0 xs hap A u hr h1 h63 hbytes hbase
  unfold Oper.wp execOp
  simp only [ho, resolve, invoke, builtin, Sem.run_bind, Sem.run_pure, Result.andThen_ok, List.map_toArray, List.map_cons, List.map_nil, hs, hx, hrun]
  exact hK _ _ (h A' c' w' h2 h3 h4)

structure Dr where
  D : Nat
  Z : Nat
  pages : Nat
  size : Nat
  lost : Bool
  zs : List ZS
def Dr.at_ (d : Dr) (w : World) (B P : Nat) : Prop := DrAt w B d.D d.Z P d.pages d.size d.lost d.zs
def Dr.S (d : Dr) : Nat → Prop := drS d.D d.Z d.zs
def devV (D : Nat) : Value := .iface 70 (.pointer (some ⟨D, 0, none⟩))

theorem slDv : SlT Try.prog 142 172 .nilIface 1 16 := ⟨Try.underlying142, by kernel_rfl, rfl, by decide⟩

/-- a power with what hangs on it -/
structure Sys (w : World) (B P : Nat) (off : Bool) (armed : Nat) (picks : List Int) (writes : Nat) (ds : List Dr) (vA : Option Addr) (vc : Nat) : Prop where
  pw : ∃ pA pc, PwAt w P off armed (.slice pA picks.length pc) writes (.slice vA ds.length vc) ∧ Rd w pA (ints picks) ∧ picks.length ≤ pc ∧ ∀ ad, pA = some ad → Has w ad.block 3
  low : B ≤ P
  row : Ap w B 172 1 (.slice vA ds.length vc) ds.length (ds.map fun d => devV d.D)
  has : ∀ ad, vA = some ad → B ≤ ad.block ∧ Has w ad.block 172
  drv : ∀ d ∈ ds, d.at_ w B P
  apart : ∀ i j (hi : i < ds.length) (hj : j < ds.length), i ≠ j → ∀ k, ds[i].S k → ¬ ds[j].S k
  few : ds.length ≤ 1000
  pks : ∀ x ∈ picks, x ≤ 9223372036854775807

theorem Ap.keepC {S : Nat → Prop} {w w1 : World} {B : Nat} {e : TypeId} {A : Option Addr} {n c : Nat} {xs : List Value} (h : Ap w B e 1 (.slice A n c) n xs) (hc : Chg S w w1) (hA : ∀ ad, A = some ad → ¬ S ad.block) : Ap w1 B e 1 (.slice A n c) n xs := by
  rcases h with h1 | ⟨A1, h1, h2, h3, h4⟩
  · exact .inl (own_keepC h1 hc fun g hg => by
      cases hA' : A with
      | none => rw [hA'] at hg; simp [Value.ownBlock] at hg
      | some ad => rw [hA'] at hg; simp [Value.ownBlock] at hg; rw [← hg]; exact hA ad hA')
  · refine .inr ⟨A1, h1, h2, h3, h4.keepC hc fun ad e => ?_⟩
    injection h1 with e1 _ _
    exact hA ad (by rw [e1, e])

/-- a turn of powers and of rows of devices leaves a drive -/
theorem DrAt.keepT {S : Nat → Prop} {w w1 : World} {B D Z P pages size : Nat} {lost : Bool} {zs : List ZS} (h : DrAt w B D Z P pages size lost zs) (hS : ∀ k, S k → Has w k 144 ∨ Has w k 172) (hc : Chg S w w1) : DrAt w1 B D Z P pages size lost zs := by
  refine h.keep hc (fun k hk => ?_) fun k hk hs => ?_
  · rcases hS k hk with h1 | h1
    · exact h1.not8 (by decide)
    · exact h1.not8 (by decide)
  · have key : ∀ t, Has w k t → t ≠ 144 → t ≠ 172 → False := fun t ht n1 n2 => by
      rcases hS k hs with h1 | h1
      · exact (ht.ne h1 n1) rfl
      · exact (ht.ne h1 n2) rfl
    rcases hk with rfl | rfl | ⟨z, hz, ad, hA, rfl⟩
    · exact key _ h.drv.has (by decide) (by decide)
    · exact key _ h.zon.has (by decide) (by decide)
    · obtain ⟨i, hi, rfl⟩ := List.getElem_of_mem hz
      exact key _ ((h.rows i hi).has ad hA).2 (by decide) (by decide)

theorem Sys.new (w : World) : ∀ w', PwAt w' w.heap.size false 0 (.slice none 0 0) 0 (.slice none 0 0) → Sys w' w.heap.size w.heap.size false 0 [] 0 [] none 0 := fun w' h =>
  ⟨⟨none, 0, h, (fun h => absurd rfl h), Nat.le_refl _, (fun _ h => by cases h)⟩, Nat.le_refl _, .inl (World.ownsRow_nil _ _ _ _), (fun _ h => by cases h), (fun _ h => by cases h), (fun i j hi => by simp at hi), by simp, (fun _ h => by cases h)⟩

section
variable {w w1 : World} {B P : Nat} {off : Bool} {armed : Nat} {picks : List Int} {writes : Nat} {ds : List Dr} {vA : Option Addr} {vc : Nat}
theorem Sys.below (h : Sys w B P off armed picks writes ds vA vc) (hb : Below w.heap.size w w1) : Sys w1 B P off armed picks writes ds vA vc := by
  obtain ⟨pA, pc, h1, h2, h3, h4⟩ := h.pw
  exact ⟨⟨pA, pc, ⟨h1.blk.below' hb⟩, h2.below hb, h3, fun ad e => (h4 ad e).keep (S := fun _ => False) (.of_below hb) (fun h => h)⟩, h.low, h.row.keepC (S := fun _ => False) (.of_below hb) (fun _ _ h => h),
    fun ad e => ⟨(h.has ad e).1, (h.has ad e).2.keep (S := fun _ => False) (.of_below hb) (fun h => h)⟩, fun d hd => DrAt.below (h.drv d hd) hb, h.apart, h.few, h.pks⟩

/-- a new drive hangs itself on -/
theorem attach_any (d : Dr) (h : Sys w B P off armed picks writes ds vA vc) (hd : d.at_ w B P) (hap : ∀ d' ∈ ds, ∀ k, d'.S k → ¬ d.S k) (hf : ds.length + 1 ≤ 1000) (hB : B ≤ w.heap.size) :
    Calls Try.prog 77 #[.pointer (some ⟨P, 0, none⟩), devV d.D] w fun e w' => e = .returned (.tuple #[]) ∧ ∃ vA' vc', Sys w' B P off armed picks writes (ds ++ [d]) vA' vc' ∧ Chg (fun k => k = P ∨ ∃ ad, vA = some ad ∧ k = ad.block) w w' := by
  obtain ⟨pA, pc, h1, h2, h3, h4⟩ := h.pw
  have c4 : w.cell? ⟨P, 4, none⟩ = some (.slice vA ds.length vc) := h1.blk.cell 4
  have hrow := h.row
  have hPlt := h1.blk.lt
  have hPno : ¬ ∃ ad, vA = some ad ∧ P = ad.block := by
    rintro ⟨ad, e, rfl⟩
    exact ((h.has ad e).2.ne h1.blk.has (by decide)) rfl
  have hblk := fun w1 (hc : Chg (fun k => ∃ ad, vA = some ad ∧ k = ad.block) (w.alloc (.cells #[devV d.D] 172)) w1) => (h1.blk.alloc (.cells #[devV d.D] 172)).keep hc hPno
  have hrd : Rd (w.alloc (.cells #[devV d.D] 172)) (some ⟨w.heap.size, 0, none⟩) [devV d.D] := Rd.one w _ _
  unfold devV at hrd hblk ⊢
  go_enter Try.func77, Try.ntmps77
  go_wp2_with (at_builtin; refine wpList_apz rfl _ _ rfl slDv B vA ds.length vc (ds.map fun d => devV d.D) rfl (hrow.alloc _) (some ⟨w.heap.size, 0, none⟩) _ rfl hrd rfl (by unfold maxLen; omega) (by omega) (by simp; omega) ?_; intro A4 c4 w4 ho4 hc4 hA4; have zk := hblk w4 hc4; have y4 : w4.cell? ⟨P, 4, none⟩ = some (.slice vA ds.length vc) := zk.cell 4; have f4 : w4.frozen? ⟨P, 4, none⟩ = false := zk.frozen 4)
  go_end0
  have hcA : Chg (fun k => k = P ∨ ∃ ad, vA = some ad ∧ k = ad.block) w w4 := (Chg.alloc (Chg.refl _ _) _).trans (hc4.mono fun k _ h => .inr h)
  have hcW : Chg (fun k => k = P ∨ ∃ ad, vA = some ad ∧ k = ad.block) w (w4.setCell ⟨P, 4, none⟩ (.slice A4 (ds.length + 1) c4)) := Chg.set (S := fun k => k = P ∨ ∃ ad, vA = some ad ∧ k = ad.block) hcA (.inl rfl) _ _
  have hT : ∀ k, (k = P ∨ ∃ ad, vA = some ad ∧ k = ad.block) → Has w k 144 ∨ Has w k 172 := by
    rintro k (rfl | ⟨ad, e, rfl⟩)
    · exact .inl h1.blk.has
    · exact .inr (h.has ad e).2
  have hP4 : ∀ ad, A4 = some ad → B ≤ ad.block ∧ Has w4 ad.block 172 := by
    intro ad e
    rcases ho4.2 with ⟨h0, _⟩ | ⟨g, cap, cur, h0, hg1, hg2, _⟩
    · injection h0 with _ h0 _; omega
    · injection h0 with h0 _ _
      rw [e] at h0
      injection h0 with h0
      subst h0
      exact ⟨hg1, _, _, hg2⟩
  have hcP : Chg (fun k => k = P) w4 (w4.setCell ⟨P, 4, none⟩ (.slice A4 (ds.length + 1) c4)) := Chg.set (S := fun k => k = P) (Chg.refl _ _) rfl _ _
  have hA4P : ∀ ad, A4 = some ad → ¬ ad.block = P := fun ad e e' => ((hP4 ad e).2.ne zk.has (by decide)) e'
  refine ⟨rfl, A4, c4, ⟨⟨pA, pc, ⟨?_⟩, ?_, h3, fun ad e => ?_⟩, h.low, ?_, fun ad e => ⟨(hP4 ad e).1, (hP4 ad e).2.keep hcP (hA4P ad e)⟩, fun d' hd' => ?_, fun i j hi hj hij k hk => ?_, by simpa using hf, h.pks⟩, hcW⟩
  · have := zk.set 4 (.slice A4 (ds.length + 1) c4)
    simpa using this
  · refine h2.keepC hcW fun ad e hs => ?_
    rcases hT _ hs with h5 | h5
    · exact ((h4 ad e).ne h5 (by decide)) rfl
    · exact ((h4 ad e).ne h5 (by decide)) rfl
  · refine (h4 ad e).keep hcW fun hs => ?_
    rcases hT _ hs with h5 | h5
    · exact ((h4 ad e).ne h5 (by decide)) rfl
    · exact ((h4 ad e).ne h5 (by decide)) rfl
  · have : Ap w4 B 172 1 (.slice A4 (ds ++ [d]).length c4) (ds ++ [d]).length ((ds ++ [d]).map fun d => devV d.D) := .inl (by simpa [devV] using ho4)
    exact this.keepC hcP hA4P
  · rcases List.mem_append.1 hd' with h5 | h5
    · exact (h.drv d' h5).keepT hT hcW
    · rw [List.mem_singleton.1 h5]
      exact DrAt.keepT hd hT hcW
  · by_cases ei : i < ds.length
    · rw [List.getElem_append_left ei] at hk
      by_cases ej : j < ds.length
      · rw [List.getElem_append_left ej]
        exact h.apart i j ei ej hij k hk
      · have : (ds ++ [d])[j] = d := by rw [List.getElem_append_right (by omega)]; simp
        rw [this]
        exact hap _ (List.getElem_mem ei) k hk
    · have e1 : (ds ++ [d])[i] = d := by rw [List.getElem_append_right (by omega)]; simp
      rw [e1] at hk
      have ej : j < ds.length := by simp at hi hj; omega
      rw [List.getElem_append_left ej]
      exact fun h5 => hap _ (List.getElem_mem ej) k h5 hk
end

theorem zero_cells (n : Nat) : madeCells (Value.agg #[.slice none 0 0, .int .i64 0]).cells (n * 2) = (zcells (List.replicate n ⟨none, 0, [], 0⟩)).toArray := by
  apply Array.ext
  · rw [size_madeCells, List.size_toArray, zcells_length, List.length_replicate]
  · intro i h1 h2
    rw [size_madeCells] at h1
    have hk : i / 2 < (List.replicate n (⟨none, 0, [], 0⟩ : ZS)).length := by rw [List.length_replicate]; omega
    obtain ⟨g0, g1⟩ := zcells_get (List.replicate n ⟨none, 0, [], 0⟩) (i / 2) hk
    simp only [List.getElem_replicate, List.length_nil] at g0 g1
    have hl : (madeCells (Value.agg #[.slice none 0 0, .int .i64 0]).cells (n * 2))[i]'(by rw [size_madeCells]; exact h1) = (#[Value.slice none 0 0, .int .i64 0] : Array Value)[i % 2]! := by simp [madeCells, Value.cells]
    rw [hl, List.getElem_toArray]
    rcases Nat.mod_two_eq_zero_or_one i with e | e
    · have e2 : i = i / 2 * 2 := by omega
      rw [← e2] at g0
      rw [(List.getElem?_eq_some_iff.1 g0).2, e]
      rfl
    · have e2 : i = i / 2 * 2 + 1 := by omega
      rw [← e2] at g1
      rw [(List.getElem?_eq_some_iff.1 g1).2, e]
      rfl
theorem run_mkz (n : Nat) (hn : n ≤ 4096) (w : World) : (Instr.makeSlice 145 (.int .i64 (n : Int)) (.int .i64 (n : Int))).run Try.prog w = .ok (.slice (some ⟨w.heap.size, 0, none⟩) n n) (w.alloc (.cells (zcells (List.replicate n ⟨none, 0, [], 0⟩)).toArray 154)) := by
  have hi0 : (Try.prog.info? 154).map (fun i => (i.zero, i.size, i.bytes)) = some (some (.agg #[.slice none 0 0, .int .i64 0]), 2, 32) := by kernel_rfl
  obtain ⟨i, hi, hz0, hs1, hb1⟩ := info_parts hi0
  have hr := run_make (P := Try.prog) w 145 154 i _ Try.underlying145 hi hz0 .i64 .i64 n n (by omega) (by omega) (by rw [hb1]; omega) (by omega)
  simp only [Int.toNat_natCast, hs1] at hr
  rw [hr, zero_cells]
end Go.Proofs.Ytppfjdohajomoaa
