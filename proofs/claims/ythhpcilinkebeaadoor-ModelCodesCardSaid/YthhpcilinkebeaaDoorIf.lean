/- The abstract array: operations are done one after the other. -/
import Derived.Test.YthhpcilinkebeaaDoorIe
import Derived.Test.YthhpcilinkebeaaDoorHo
namespace Go.Proofs.YthhpcilinkebeaaDoor
open Go.RowKit Go.Maps
set_option maxHeartbeats 4000000
set_option maxRecDepth 100000

theorem add_add2 (a : Addr) (i j : Nat) : (a.add i).add j = a.add (i + j) := by
  unfold Addr.add
  by_cases hi : i = 0
  · subst hi; simp
  · by_cases hj : j = 0
    · subst hj; simp
    · have : ¬ (i + j = 0) := by omega
      simp only [if_neg hi, if_neg hj, if_neg this, Nat.add_assoc]
theorem add_off2 (a : Addr) (i j : Nat) (hj : j ≠ 0) : a.add (i + j) = ⟨(a.add i).block, (a.add i).off + j, none⟩ := by
  have h : ∀ x : Addr, x.add j = ⟨x.block, x.off + j, none⟩ := fun x => by simp [Addr.add, hj]
  rw [← add_add2, h]
def ocells (l : List OM) : List Value := l.flatMap OM.cells
theorem ocells_length (l : List OM) : (ocells l).length = l.length * 6 := by
  induction l with
  | nil => rfl
  | cons p L ih => simp [ocells, OM.cells] at ih ⊢; omega
theorem ocells_get (l : List OM) (i j : Nat) (h : i < l.length) (hj : j < 6) : (ocells l)[i * 6 + j]? = (l[i].cells)[j]? := by
  induction l generalizing i with
  | nil => simp at h
  | cons p L ih =>
    have e : ocells (p :: L) = p.cells ++ ocells L := rfl
    have hp : p.cells.length = 6 := rfl
    cases i with
    | zero =>
      rw [e, List.getElem?_append_left (by omega)]
      simp
    | succ i =>
      rw [e, List.getElem?_append_right (by omega), hp, show (i + 1) * 6 + j - 6 = i * 6 + j by omega]
      simpa using ih i (by simpa using h)
theorem ops_at {w : World} {A : Option Addr} {l : List OM} (hr : Rd w A (ocells l)) (i : Nat) (h : i < l.length) : ∃ ad, A = some ad ∧ ad.block < w.heap.size ∧ w.cell? (ad.add (i * 6)) = some (.int .i64 l[i].kind) ∧
    w.cell? ⟨(ad.add (i * 6)).block, (ad.add (i * 6)).off + 1, none⟩ = some (.string l[i].name) ∧ w.cell? ⟨(ad.add (i * 6)).block, (ad.add (i * 6)).off + 2, none⟩ = some (.string l[i].dst) ∧
    w.cell? ⟨(ad.add (i * 6)).block, (ad.add (i * 6)).off + 3, none⟩ = some (.int .i64 l[i].at_) ∧ w.cell? ⟨(ad.add (i * 6)).block, (ad.add (i * 6)).off + 4, none⟩ = some (.int .i64 l[i].n) ∧
    w.cell? ⟨(ad.add (i * 6)).block, (ad.add (i * 6)).off + 5, none⟩ = some (.slice l[i].A l[i].l.length l[i].c) := by
  have hl := ocells_length l
  obtain ⟨ad, e, hb, hc⟩ := hr (by intro h0; rw [h0] at hl; simp at hl; omega)
  have g := fun j u hj hu => hc (i * 6 + j) u (by rw [ocells_get l i j h hj]; exact hu)
  refine ⟨ad, e, hb, g 0 _ (by omega) rfl, ?_, ?_, ?_, ?_, ?_⟩
  · rw [← add_off2 _ _ _ (by omega)]; exact g 1 _ (by omega) rfl
  · rw [← add_off2 _ _ _ (by omega)]; exact g 2 _ (by omega) rfl
  · rw [← add_off2 _ _ _ (by omega)]; exact g 3 _ (by omega) rfl
  · rw [← add_off2 _ _ _ (by omega)]; exact g 4 _ (by omega) rfl
  · rw [← add_off2 _ _ _ (by omega)]; exact g 5 _ (by omega) rfl

/-- the value of a run -/
def runV (nameE : Bts → Nat) (av : AV) : List OV → List AnV × AV
  | [] => ([], av)
  | o :: r => ((doV nameE av o).1 :: (runV nameE (doV nameE av o).2 r).1, (runV nameE (doV nameE av o).2 r).2)
theorem runV_append (nameE : Bts → Nat) (av : AV) (a b : List OV) : runV nameE av (a ++ b) = ((runV nameE av a).1 ++ (runV nameE (runV nameE av a).2 b).1, (runV nameE (runV nameE av a).2 b).2) := by
  induction a generalizing av with
  | nil => rfl
  | cons o r ih => rw [List.cons_append, runV, ih, runV]; rfl
theorem doV_same (nameE : Bts → Nat) (av : AV) (o : OV) : (doV nameE av o).2.block = av.block ∧ (doV nameE av o).2.quota = av.quota := by
  unfold doV setV
  split
  · exact ⟨rfl, rfl⟩
  · dsimp only
    repeat' split
    all_goals exact ⟨rfl, rfl⟩
theorem runV_same (nameE : Bts → Nat) (av : AV) (l : List OV) : (runV nameE av l).2.block = av.block ∧ (runV nameE av l).2.quota = av.quota := by
  induction l generalizing av with
  | nil => exact ⟨rfl, rfl⟩
  | cons o r ih =>
    rw [runV]
    have := ih (doV nameE av o).2
    have h2 := doV_same nameE av o
    exact ⟨this.1.trans h2.1, this.2.trans h2.2⟩
theorem runV_step (nameE : Bts → Nat) (av : AV) (l : List OM) (k : Nat) (hk : k < l.length) :
    runV nameE av ((l.take (k + 1)).map OM.ov) = ((runV nameE av ((l.take k).map OM.ov)).1 ++ [(doV nameE (runV nameE av ((l.take k).map OM.ov)).2 l[k].ov).1], (doV nameE (runV nameE av ((l.take k).map OM.ov)).2 l[k].ov).2) := by
  rw [List.take_succ_eq_append_getElem hk, List.map_append, runV_append]
  rfl
theorem runV_len (nameE : Bts → Nat) (av : AV) (l : List OV) : (runV nameE av l).1.length = l.length := by
  induction l generalizing av with
  | nil => rfl
  | cons o r ih => rw [runV]; simp [ih]

/-- an answer in memory, and its value -/
structure AnM where
  v : AnV
  B : Option Addr
  c : Nat
  D : Option Addr
  c2 : Nat
def AnM.cells (x : AnM) : List Value := [.int .i64 (x.v.err : Nat), .slice x.B x.v.data.length x.c, .slice x.D x.v.vols.length x.c2]
structure AnM.ok (x : AnM) (w0 w : World) : Prop where
  fr : FreshB w0 w x.B x.c x.v.data
  rv : Rd w x.D (x.v.vols.flatMap volC)
  hd : ∀ ad, x.D = some ad → w0.heap.size ≤ ad.block ∧ Has w ad.block 47
theorem Has.of_own {w : World} {base : Nat} {e : TypeId} {size n c : Nat} {A : Option Addr} {xs : List Value} (h : w.ownsRow base e size (.slice A n c) n xs) : ∀ ad, A = some ad → base ≤ ad.block ∧ Has w ad.block e := fun ad ea => by
  rcases h.2 with ⟨h0, h1⟩ | ⟨g, cap, cur, h0, hbg, hg, _⟩
  · injection h0 with e1; rw [e1] at ea; cases ea
  · injection h0 with e1
    rw [e1] at ea
    injection ea with ea
    subst ea
    exact ⟨hbg, cur, _, hg⟩
theorem AnsAt.am {w w' : World} {v : Value} {a : AnV} (h : AnsAt w w' v a) : ∃ x : AnM, x.v = a ∧ v = .agg x.cells.toArray ∧ x.ok w w' := by
  obtain ⟨B, c, D, c2, rfl, hf, ho⟩ := h
  exact ⟨⟨a, B, c, D, c2⟩, rfl, rfl, hf, Rd.of_own ho, Has.of_own ho⟩
theorem AnM.ok.keep {x : AnM} {w0 w w' : World} (h : x.ok w0 w) {S : Nat → Prop} (hc : Chg S w w') (hS : ∀ k, S k → ¬ Has w k 5 ∧ ¬ Has w k 47) : x.ok w0 w' :=
  ⟨⟨h.fr.1.keepC hc fun ad e hs => (hS _ hs).1 (h.fr.2.2 ad e).2, h.fr.2.1, fun ad e => ⟨(h.fr.2.2 ad e).1, (h.fr.2.2 ad e).2.keep hc fun hs => (hS _ hs).1 (h.fr.2.2 ad e).2⟩⟩,
    h.rv.keepC hc fun ad e hs => (hS _ hs).2 (h.hd ad e).2, fun ad e => ⟨(h.hd ad e).1, (h.hd ad e).2.keep hc fun hs => (hS _ hs).2 (h.hd ad e).2⟩⟩
theorem AnM.ok.base {x : AnM} {w0 w1 w : World} (h : x.ok w1 w) (hb : w0.heap.size ≤ w1.heap.size) : x.ok w0 w :=
  ⟨⟨h.fr.1, h.fr.2.1, fun ad e => ⟨Nat.le_trans hb (h.fr.2.2 ad e).1, (h.fr.2.2 ad e).2⟩⟩, h.rv, fun ad e => ⟨Nat.le_trans hb (h.hd ad e).1, (h.hd ad e).2⟩⟩
section
variable {w w' w'' : World} {A M block quota : Nat} {ms ms' : List VM}
theorem ArrAt.nfoot (h : ArrAt w A M block quota ms) : ∀ k, Foot M ms k → ¬ Has w k 5 ∧ ¬ Has w k 47 := fun _ hk => ⟨fun hh => h.not hh (by decide) hk, fun hh => h.not hh (by decide) hk⟩
theorem tabs_cells {g : Nat} {u : Value} (hc : w.cell? ⟨g, 0, none⟩ = some u) (hu : ∃ n, u = .int .u8 n) (h : ArrAt w A M block quota ms) : ¬ Foot M ms g := by
  obtain ⟨n, rfl⟩ := hu
  intro hk
  have hmp : ¬ IsMp w g := fun ⟨es, c, hb⟩ => by simp [World.cell?, hb] at hc
  rcases hk with rfl | ⟨m, hm, rfl | rfl⟩
  · obtain ⟨n0, hn0⟩ := h.mp; exact hmp hn0.isMp
  · have := (h.vol m hm).blk.cell 0
    rw [hc] at this
    simp [VM.cells] at this
  · obtain ⟨n0, hn0⟩ := (h.vol m hm).mp; exact hmp hn0.isMp
theorem Chg.cellC {S : Nat → Prop} (hc : Chg S w w') {p : Addr} {u : Value} (h : w.cell? p = some u) (hp : ¬ S p.block) : w'.cell? p = some u := by
  have hlt : p.block < w.heap.size := by
    rcases Nat.lt_or_ge p.block w.heap.size with h1 | h1
    · exact h1
    · have : w.heap[p.block]? = none := Array.getElem?_eq_none h1
      simp [World.cell?, this] at h
  rw [World.cell?_of_block (hc.block _ hlt hp)]
  exact h
theorem Tabs.keep (hT : Tabs w) (h : ArrAt w A M block quota ms) (hc : Chg (Foot M ms) w w') : Tabs w' := by
  have h3 : ¬ Foot M ms (Tryd.laysValid_ren.g 3) := tabs_cells (hT.1 0 (by decide)) ⟨_, rfl⟩ h
  have h4 : ¬ Foot M ms (Tryd.laysValid_ren.g 4) := tabs_cells (hT.2 0 (by decide)).1 ⟨_, rfl⟩ h
  exact ⟨fun c hc' => hc.cellC (hT.1 c hc') h3, fun i hi => ⟨hc.cellC (hT.2 i hi).1 h4, hc.cellC (hT.2 i hi).2 h4⟩⟩
end
end Go.Proofs.YthhpcilinkebeaaDoor
