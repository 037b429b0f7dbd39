/- Orders: Go's comparison of strings and of whole numbers as -1, 0, 1; of strict orders, plain. -/
import Derived.Test.YthbjpoiolmlpmaaGreatDoorKern
import Derived.Sort.Walk0
namespace Go.Proofs.YthbjpoiolmlpmaaGreatDoor

def sLt (a b : ByteArray) : Bool := Op.bytesLess a.toList b.toList
def cmpS (a b : ByteArray) : Int := if sLt a b = true then -1 else if a = b then 0 else 1
def cmpI (a b : Int) : Int := if a < b then -1 else if b < a then 1 else 0

theorem toList_inj {a b : ByteArray} : a.toList = b.toList ↔ a = b := by
  refine ⟨fun h => ?_, fun h => by rw [h]⟩
  have e : ∀ c : ByteArray, c.toList = c.data.toList := fun c => ByteArray.toList_eq c
  rw [e, e] at h
  obtain ⟨⟨x⟩⟩ := a
  obtain ⟨⟨y⟩⟩ := b
  simp at h
  rw [h]
theorem sLt_eq (a b : ByteArray) : sLt a b = decide (a.toList < b.toList) := bytesLess_eq _ _
theorem sLt_irrefl (a : ByteArray) : sLt a a = false := by rw [sLt_eq]; simp
theorem sLt_trans {a b c : ByteArray} (h : sLt a b = true) (k : sLt b c = true) : sLt a c = true := by
  rw [sLt_eq, decide_eq_true_eq] at *
  exact List.lt_trans h k
theorem sLt_total {a b : ByteArray} (h : sLt a b = false) (k : sLt b a = false) : a = b := by
  rw [sLt_eq, decide_eq_false_iff_not] at h k
  exact toList_inj.1 (List.le_antisymm (List.not_lt.1 k) (List.not_lt.1 h))
theorem sLt_asymm {a b : ByteArray} (h : sLt a b = true) : sLt b a = false := by
  rcases Bool.eq_false_or_eq_true (sLt b a) with k | k
  · have := sLt_trans h k
    rw [sLt_irrefl] at this
    cases this
  · exact k
end Go.Proofs.YthbjpoiolmlpmaaGreatDoor
