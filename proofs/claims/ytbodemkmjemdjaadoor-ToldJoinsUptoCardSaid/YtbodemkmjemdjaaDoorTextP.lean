/-
  The text of an edit, line by line.
-/
import Derived.Test.YtbodemkmjemdjaaDoorNowP
namespace Go.Proofs.YtbodemkmjemdjaaDoor
open Go.RowKit

def putLines (R : List (List UInt8)) : List UInt8 := R.flatMap fun r => 43 :: (r ++ [10])

theorem whole_lines : ∀ Y : List ByteArray, (∀ x ∈ Y, isLine x) → ∃ R : List (List UInt8), R.length = Y.length ∧ (∀ r ∈ R, 10 ∉ r) ∧ Y.map (·.data.toList) = R.map (· ++ [10])
  | [], _ => ⟨[], rfl, (fun r hr => by cases hr), rfl⟩
  | x :: Y, h => by
    obtain ⟨r, hx, hr⟩ := h x (by simp)
    obtain ⟨R, h1, h2, h3⟩ := whole_lines Y (fun y hy => h y (by simp [hy]))
    refine ⟨r :: R, by simp [h1], fun r' hr' => ?_, by simp [h3, hx]⟩
    rcases List.mem_cons.1 hr' with rfl | hr'
    · exact hr
    · exact h2 r' hr'

theorem put_of {Y : List ByteArray} {R : List (List UInt8)} (h : Y.map (·.data.toList) = R.map (· ++ [10])) : linesText Y = putLines R ∧ joinB Y = R.flatMap (· ++ [10]) := by
  constructor
  · have e : linesText Y = (Y.map (·.data.toList)).flatMap fun x => 43 :: x := by simp [linesText, List.flatMap_map]
    rw [e, h]
    simp [putLines, List.flatMap_map]
  · have e : joinB Y = (Y.map (·.data.toList)).flatten := rfl
    rw [e, h]
    simp [List.flatMap_def]

/-- What an edit's text is, by the lines that it puts in: R whole ones, and t behind them. -/
theorem ed_parts (e : Ed) : ∃ (R : List (List UInt8)) (t : List UInt8), (∀ r ∈ R, 10 ∉ r) ∧ 10 ∉ t ∧ e.tx.data.toList = (R.flatMap (· ++ [10])) ++ t ∧ (linesOf e.tx).length = R.length + (if t = [] then 0 else 1) ∧
    linesText (linesOf e.tx) = putLines R ++ (if t = [] then [] else 43 :: t) := by
  obtain ⟨Y, t, h1, h2, h3, h4⟩ := lines_shape e.tx.data.toList.length e.tx.data.toList (Nat.le_refl _)
  have h1' : linesOf e.tx = Y ++ (if t = [] then [] else [⟨t.toArray⟩]) := h1
  obtain ⟨R, r1, r2, r3⟩ := whole_lines Y h2
  obtain ⟨p1, p2⟩ := put_of r3
  refine ⟨R, t, r2, h3, by rw [h4, p2], ?_, ?_⟩
  · rw [h1', List.length_append, ← r1]
    split <;> simp
  · rw [h1', ← p1]
    simp only [linesText, List.flatMap_append]
    split <;> simp

end Go.Proofs.YtbodemkmjemdjaaDoor
