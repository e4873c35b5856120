/-
  Lines that are put behind one another are told apart again.
-/
import Derived.Test.YtbodemkmjemdjaaDoorWords
namespace Go.Proofs.YtbodemkmjemdjaaDoor
open Go.RowKit

def isLine (x : ByteArray) : Prop := ∃ r, x.data.toList = r ++ [10] ∧ 10 ∉ r

theorem linesF_enough : ∀ (f g : Nat) (s : ByteArray), s.size ≤ f → s.size ≤ g → linesF f s = linesF g s
  | 0, g, s, hf, _ => by rw [linesF_nil _ s (by omega), linesF_nil g s (by omega)]
  | f + 1, 0, s, _, hg => by rw [linesF_nil _ s (by omega), linesF_nil 0 s (by omega)]
  | f + 1, g + 1, s, hf, hg => by
    unfold linesF
    split
    · rfl
    · rename_i h
      obtain ⟨c1, c2⟩ := cutAt_bounds s h
      congr 1
      exact linesF_enough f g _ (by rw [ByteArray.size_extract]; omega) (by rw [ByteArray.size_extract]; omega)

theorem bytes_eq {a b : ByteArray} (h : a.data.toList = b.data.toList) : a = b := ByteArray.ext (Array.toList_inj.1 h)

theorem lines_first {s : ByteArray} {r rest : List UInt8} (hs : s.data.toList = r ++ 10 :: rest) (hr : 10 ∉ r) : linesOf s = ⟨(r ++ [10]).toArray⟩ :: linesOf ⟨rest.toArray⟩ := by
  have hsz : s.size = r.length + 1 + rest.length := by
    have e : s.data.toList.length = s.size := Array.length_toList
    rw [← e, hs]; simp; omega
  have hcut : cutAt s = r.length + 1 := by
    unfold cutAt
    rw [hs, indexByte_at r rest 10 hr, if_neg (by omega)]
    omega
  unfold linesOf
  obtain ⟨k, hk⟩ : ∃ k, s.size = k + 1 := ⟨s.size - 1, by omega⟩
  rw [hk]
  have e1 : linesF (k + 1) s = s.extract 0 (cutAt s) :: linesF k (s.extract (cutAt s) s.size) := by
    conv => lhs; unfold linesF
    rw [if_neg (by omega)]
  rw [e1, hcut]
  have e2 : s.extract 0 (r.length + 1) = ⟨(r ++ [10]).toArray⟩ := by
    apply bytes_eq
    simp only [ByteArray.data_extract, Array.toList_extract, List.extract_eq_take_drop, Nat.sub_zero, List.drop_zero]
    rw [hs, show r ++ 10 :: rest = (r ++ [10]) ++ rest by simp, List.take_append_of_le_length (by simp)]
    exact List.take_of_length_le (by simp)

  have e3 : s.extract (r.length + 1) s.size = ⟨rest.toArray⟩ := by
    apply bytes_eq
    simp only [ByteArray.data_extract, Array.toList_extract, List.extract_eq_take_drop]
    rw [hs, hsz, show r ++ 10 :: rest = (r ++ [10]) ++ rest by simp, List.drop_append_of_le_length (by simp)]
    simp
  rw [e2, e3]
  congr 1
  have e4 : (⟨rest.toArray⟩ : ByteArray).size = rest.length := by show rest.toArray.size = _; simp
  exact linesF_enough _ _ _ (by omega) (Nat.le_refl _)

theorem linesOf_lines : ∀ (Y : List ByteArray) (t : List UInt8), (∀ x ∈ Y, isLine x) → linesOf ⟨(joinB Y ++ t).toArray⟩ = Y ++ linesOf ⟨t.toArray⟩
  | [], t, _ => rfl
  | x :: Y, t, h => by
    obtain ⟨r, hx, hr⟩ := h x (by simp)
    have e : joinB (x :: Y) ++ t = r ++ 10 :: (joinB Y ++ t) := by
      have : joinB (x :: Y) = x.data.toList ++ joinB Y := by simp [joinB]
      rw [this, hx]; simp
    rw [lines_first (s := ⟨(joinB (x :: Y) ++ t).toArray⟩) (r := r) (rest := joinB Y ++ t) (by rw [e]) hr, linesOf_lines Y t (fun y hy => h y (by simp [hy]))]
    have : x = ⟨(r ++ [10]).toArray⟩ := bytes_eq (by rw [hx])
    rw [← this]; rfl

theorem first_ten : ∀ l : List UInt8, 10 ∈ l → ∃ r rest, l = r ++ 10 :: rest ∧ 10 ∉ r
  | [], h => by cases h
  | b :: l, h => by
    by_cases hb : b = 10
    · subst hb
      exact ⟨[], l, rfl, by simp⟩
    · obtain ⟨r, rest, h1, h2⟩ := first_ten l (by
        rcases List.mem_cons.1 h with h | h
        · exact (hb h.symm).elim
        · exact h)
      refine ⟨b :: r, rest, by rw [h1]; rfl, fun h3 => ?_⟩
      rcases List.mem_cons.1 h3 with h3 | h3
      · exact hb h3.symm
      · exact h2 h3

theorem indexByte_none : ∀ l : List UInt8, 10 ∉ l → Lib.indexByte l 10 = -1
  | [], _ => rfl
  | b :: l, h => by
    have h1 : ¬ (b == 10) = true := fun e => h (by simp [beq_iff_eq.1 e])
    have h2 := indexByte_none l (fun h' => h (by simp [h']))
    simp only [Lib.indexByte]
    rw [if_neg h1, h2]
    rfl

theorem lines_rest (t : List UInt8) (ht : 10 ∉ t) : linesOf ⟨t.toArray⟩ = if t = [] then [] else [⟨t.toArray⟩] := by
  have e4 : (⟨t.toArray⟩ : ByteArray).size = t.length := by show t.toArray.size = _; simp
  split
  · rename_i h
    subst h
    rfl
  · rename_i h
    have hl : t.length ≠ 0 := fun e => h (List.eq_nil_of_length_eq_zero e)
    have hcut : cutAt ⟨t.toArray⟩ = t.length := by
      unfold cutAt
      rw [show (⟨t.toArray⟩ : ByteArray).data.toList = t from rfl, indexByte_none t ht, if_pos (by decide), e4]
    unfold linesOf
    rw [e4]
    obtain ⟨k, hk⟩ : ∃ k, t.length = k + 1 := ⟨t.length - 1, by omega⟩
    rw [hk]
    have e1 : linesF (k + 1) ⟨t.toArray⟩ = (⟨t.toArray⟩ : ByteArray).extract 0 (cutAt ⟨t.toArray⟩) :: linesF k ((⟨t.toArray⟩ : ByteArray).extract (cutAt ⟨t.toArray⟩) (⟨t.toArray⟩ : ByteArray).size) := by
      conv => lhs; unfold linesF
      rw [if_neg (by omega)]
    rw [e1, hcut, linesF_nil _ _ (by rw [ByteArray.size_extract]; omega)]
    congr 1
    rw [← e4]
    exact ByteArray.extract_zero_size

/-- What a text's lines are: whole ones, and perhaps one more without an end. -/
theorem lines_shape (n : Nat) : ∀ l : List UInt8, l.length ≤ n → ∃ (Y : List ByteArray) (t : List UInt8), linesOf ⟨l.toArray⟩ = Y ++ (if t = [] then [] else [⟨t.toArray⟩]) ∧ (∀ x ∈ Y, isLine x) ∧ 10 ∉ t ∧ l = joinB Y ++ t := by
  induction n with
  | zero =>
    intro l hl
    have : l = [] := List.eq_nil_of_length_eq_zero (by omega)
    subst this
    exact ⟨[], [], rfl, (fun x hx => by cases hx), by simp, rfl⟩
  | succ n ih =>
    intro l hl
    by_cases h : 10 ∈ l
    · obtain ⟨r, rest, h1, h2⟩ := first_ten l h
      have hr : rest.length ≤ n := by rw [h1] at hl; simp at hl; omega
      obtain ⟨Y, t, e1, e2, e3, e4⟩ := ih rest hr
      refine ⟨⟨(r ++ [10]).toArray⟩ :: Y, t, ?_, ?_, e3, ?_⟩
      · rw [lines_first (s := ⟨l.toArray⟩) (r := r) (rest := rest) h1 h2, e1]; rfl
      · intro x hx
        rcases List.mem_cons.1 hx with rfl | hx
        · exact ⟨r, rfl, h2⟩
        · exact e2 x hx
      · have : joinB (⟨(r ++ [10]).toArray⟩ :: Y) = (r ++ [10]) ++ joinB Y := by simp [joinB]
        rw [this, h1, e4]; simp
    · exact ⟨[], l, by rw [lines_rest l h]; rfl, (fun x hx => by cases hx), h, rfl⟩

end Go.Proofs.YtbodemkmjemdjaaDoor
