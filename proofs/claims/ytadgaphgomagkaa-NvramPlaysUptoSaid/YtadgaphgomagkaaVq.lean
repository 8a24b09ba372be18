/- The log's device: the writes that its undos stand for. -/
import Derived.Test.YtadgaphgomagkaaVe
namespace Go.Proofs.Ytadgaphgomagkaa
open Go.RowKit
set_option maxHeartbeats 2000000
set_option maxRecDepth 100000

/-- the writes that a device's undos stand for -/
structure Link (kept : List UInt8) (L : List (Nat × UInt8)) (us : List Un) : Prop where
  len : us.length = L.length
  lt : ∀ p ∈ L, p.1 < kept.length
  pos : ∀ k (h : k < us.length) (h' : k < L.length), us[k].at_ + us[k].i = L[k].1
  was : ∀ k (h : k < us.length) (h' : k < L.length), (app kept (L.take k))[L[k].1]? = some us[k].was
theorem Link.undo {kept : List UInt8} {L : List (Nat × UInt8)} {us : List Un} (l : Link kept L us) (k : Nat) (h : k < us.length) : (app kept (L.take (k + 1))).set (us[k].at_ + us[k].i) us[k].was = app kept (L.take k) := by
  have h' : k < L.length := by rw [← l.len]; exact h
  have hlt := l.lt _ (List.getElem_mem h')
  have hw := l.was k h h'
  rw [List.getElem?_eq_getElem (by rw [app_length]; exact hlt)] at hw
  injection hw with hw
  rw [l.pos k h h', ← hw]
  exact app_undo kept L k h' hlt
theorem Link.pushed {kept : List UInt8} {L : List (Nat × UInt8)} {us : List Un} (l : Link kept L us) (u : Un) (b : UInt8) (hlt : u.at_ + u.i < kept.length) (hw : (app kept L)[u.at_ + u.i]? = some u.was) : Link kept (L ++ [(u.at_ + u.i, b)]) (us ++ [u]) := by
  refine ⟨by simp [l.len], fun p hp => ?_, fun k h h' => ?_, fun k h h' => ?_⟩
  · rcases List.mem_append.1 hp with h1 | h1
    · exact l.lt p h1
    · rw [List.mem_singleton.1 h1]; exact hlt
  · by_cases e : k < us.length
    · have e' : k < L.length := by rw [← l.len]; exact e
      rw [List.getElem_append_left e, List.getElem_append_left e']
      exact l.pos k e e'
    · have : k = us.length := by simp at h; omega
      subst this
      have hl := l.len
      simp [hl]
  · by_cases e : k < us.length
    · have e' : k < L.length := by rw [← l.len]; exact e
      rw [List.getElem_append_left e, List.getElem_append_left e', List.take_append_of_le_length (by omega)]
      exact l.was k e e'
    · have : k = us.length := by simp at h; omega
      subst this
      have hl := l.len
      rw [List.take_append_of_le_length (by omega), List.take_of_length_le (by omega)]
      simpa [hl] using hw

end Go.Proofs.Ytadgaphgomagkaa
