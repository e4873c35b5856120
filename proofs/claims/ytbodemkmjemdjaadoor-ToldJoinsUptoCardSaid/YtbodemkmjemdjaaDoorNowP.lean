/-
  The line that comes, in plain words.
-/
import Derived.Test.YtbodemkmjemdjaaDoorLinesP
namespace Go.Proofs.YtbodemkmjemdjaaDoor
open Go.RowKit

theorem suffix_line (r : List UInt8) : Lib.hasSuffix (r ++ [10]) [10] = true := by
  simp [Lib.hasSuffix]
theorem trim_line (r : List UInt8) : Lib.trimSuffix (r ++ [10]) [10] = r := by
  simp [Lib.trimSuffix, suffix_line]
theorem now_line {X : List ByteArray} {n : Nat} {r : List UInt8} (h : X[n]? = some ⟨(r ++ [10]).toArray⟩) : nowF X n = (⟨r.toArray⟩, true) := by
  unfold nowF
  rw [h]
  show (((⟨(Lib.trimSuffix (r ++ [10]) [10]).toArray⟩ : ByteArray)), Lib.hasSuffix (r ++ [10]) [10]) = _
  rw [trim_line, suffix_line]
theorem now_none {X : List ByteArray} {n : Nat} (h : X.length ≤ n) : nowF X n = (⟨#[]⟩, false) := by
  unfold nowF
  rw [List.getElem?_eq_none h]

/-- The lines that were put in are taken. -/
theorem take_lines (X : List ByteArray) : ∀ (Y : List (List UInt8)) (n : Nat) (t : ByteArray), (∀ i r, Y[i]? = some r → X[n + i]? = some ⟨(43 :: (r ++ [10])).toArray⟩) →
    takeF X Y.length n t = (⟨(t.data.toList ++ Y.flatMap fun r => r ++ [10]).toArray⟩, n + Y.length, true)
  | [], n, t, _ => by
    simp only [List.length_nil, takeF, List.flatMap_nil, List.append_nil, Nat.add_zero]
  | r :: Y, n, t, h => by
    have h0 := h 0 r rfl
    rw [Nat.add_zero] at h0
    have hn : nowF X n = (⟨(43 :: r).toArray⟩, true) := now_line (r := 43 :: r) h0
    have hp : plusLine (nowF X n) = true := by
      rw [hn]
      simp [plusLine, Lib.hasPrefix]
    simp only [List.length_cons, takeF]
    rw [if_pos hp, hn, take_lines X Y (n + 1) _ (fun i r' hi => by
      have := h (i + 1) r' (by simpa using hi)
      rw [show n + 1 + i = n + (i + 1) by omega]
      exact this)]
    have e : (⟨(43 :: r).toArray⟩ : ByteArray).size = r.length + 1 := by show (43 :: r).toArray.size = _; simp
    simp only [Prod.mk.injEq, and_true]
    refine ⟨?_, by omega⟩
    apply bytes_eq
    simp [e, List.extract_eq_take_drop]

end Go.Proofs.YtbodemkmjemdjaaDoor
