/-
  A path has no byte 10; what is cut at a byte is glued again.
-/
import Derived.Test.YtbodemkmjemdjaaDoorTextP
namespace Go.Proofs.YtbodemkmjemdjaaDoor
open Go.RowKit

def byteOk (c : UInt8) : Bool := decide (33 ≤ c.toNat) && decide (c.toNat ≤ 126)

theorem decode_cases (s : ByteArray) (i : Nat) : ((s.get! i).toNat < 128 ∧ Utf8.decode s i = ((s.get! i).toNat, 1)) ∨ (128 ≤ (s.get! i).toNat ∧ 128 ≤ (Utf8.decode s i).1) := by
  unfold Utf8.decode
  simp only [Nat.add_zero]
  by_cases h : (s.get! i).toNat < 128
  · rw [if_pos h]
    exact .inl ⟨h, rfl⟩
  · rw [if_neg h]
    refine .inr ⟨by omega, ?_⟩
    have e : Utf8.runeError = 65533 := rfl
    split
    · split
      · assumption
      · rw [e]; decide
    · split
      · split
        · rename_i h2
          simp only [ge_iff_le, Bool.and_eq_true, decide_eq_true_eq] at h2
          exact Nat.le_trans (by decide) h2.1
        · rw [e]; decide
      · split
        · split
          · rename_i h2
            simp only [ge_iff_le, Bool.and_eq_true, decide_eq_true_eq] at h2
            exact Nat.le_trans (by decide) h2.1
          · rw [e]; decide
        · rw [e]; decide

theorem get_list (s : ByteArray) (i : Nat) (h : i < s.size) : s.data.toList.drop i = s.get! i :: s.data.toList.drop (i + 1) := by
  have h2 : i < s.data.toList.length := by simpa using h
  rw [List.drop_eq_getElem_cons h2]
  congr 1
  simp [ByteArray.get!, getElem!_pos s.data i (by simpa using h)]

theorem idxFrom_iff (s : ByteArray) : ∀ (f pos : Nat), s.size ≤ pos + f → (0 ≤ Lib.idxFuncFrom badRune true s f pos ↔ (s.data.toList.drop pos).all byteOk = false)
  | 0, pos, h => by
    have : s.data.toList.drop pos = [] := List.drop_eq_nil_of_le (by simpa using h)
    rw [this]
    simp [Lib.idxFuncFrom]
  | f + 1, pos, h => by
    by_cases hp : pos < s.size
    · unfold Lib.idxFuncFrom
      rw [if_pos hp, get_list s pos hp, List.all_cons]
      rcases decode_cases s pos with ⟨h1, h2⟩ | ⟨h1, h2⟩
      · rw [h2]
        dsimp only
        by_cases hb : byteOk (s.get! pos) = true
        · have : badRune (s.get! pos).toNat = false := by
            simp only [byteOk, Bool.and_eq_true, decide_eq_true_eq] at hb
            simp only [badRune, Bool.or_eq_false_iff, decide_eq_false_iff_not]
            omega
          rw [this, if_neg (by simp), hb, Bool.true_and]
          exact idxFrom_iff s f (pos + 1) (by omega)
        · have : badRune (s.get! pos).toNat = true := by
            simp only [byteOk, Bool.and_eq_true, decide_eq_true_eq] at hb
            simp only [badRune, Bool.or_eq_true, decide_eq_true_eq]
            omega
          rw [this, if_pos rfl]
          simp [hb]
      · have hb : byteOk (s.get! pos) = false := by simp only [byteOk, Bool.and_eq_false_iff, decide_eq_false_iff_not]; omega
        have : badRune (Utf8.decode s pos).1 = true := by
          simp only [badRune, Bool.or_eq_true, decide_eq_true_eq]
          omega
        rw [this, if_pos rfl, hb]
        simp
    · rw [Lib.idxFuncFrom_end _ _ _ _ _ hp, List.drop_eq_nil_of_le (by simp; omega)]
      simp

theorem idx_all (s : ByteArray) : (!decide (0 ≤ Lib.idxFunc badRune true s)) = s.data.toList.all byteOk := by
  have h := idxFrom_iff s s.size 0 (by omega)
  rw [List.drop_zero] at h
  unfold Lib.idxFunc
  rw [Bool.eq_iff_iff]
  simp only [Bool.not_eq_true', decide_eq_false_iff_not]
  rw [h]
  simp

/-- What is cut at a byte, glued again. -/
def glue (c : UInt8) : List (List UInt8) → List UInt8
  | [] => []
  | [a] => a
  | a :: b :: L => a ++ c :: glue c (b :: L)

theorem first_at (c : UInt8) : ∀ l : List UInt8, c ∈ l → ∃ r rest, l = r ++ c :: rest ∧ c ∉ r
  | [], h => by cases h
  | b :: l, h => by
    by_cases hb : b = c
    · subst hb
      exact ⟨[], l, rfl, by simp⟩
    · obtain ⟨r, rest, h1, h2⟩ := first_at c l (by
        rcases List.mem_cons.1 h with h | h
        · exact (hb h.symm).elim
        · exact h)
      refine ⟨b :: r, rest, by rw [h1]; rfl, fun h3 => ?_⟩
      rcases List.mem_cons.1 h3 with h3 | h3
      · exact hb h3.symm
      · exact h2 h3

theorem splitK_glue (c : UInt8) : ∀ (k : Nat) (l : List UInt8), l.count c = k → glue c (Lib.splitK [c] 0 k l) = l ∧ (∃ a L, Lib.splitK [c] 0 k l = a :: L) ∧ ∀ a ∈ Lib.splitK [c] 0 k l, c ∉ a
  | 0, l, h => by
    have e : Lib.splitK [c] 0 0 l = [l] := rfl
    rw [e]
    refine ⟨rfl, ⟨l, [], rfl⟩, fun a ha => ?_⟩
    obtain rfl : a = l := by simpa using ha
    exact List.count_eq_zero.1 h
  | k + 1, l, h => by
    obtain ⟨r, rest, h1, h2⟩ := first_at c l (List.count_pos_iff.1 (by omega))
    subst h1
    have hk : rest.count c = k := by
      rw [List.count_append, List.count_eq_zero_of_not_mem h2, List.count_cons_self] at h
      omega
    obtain ⟨i1, ⟨a, L, i2⟩, i3⟩ := splitK_glue c k rest hk
    rw [splitK_step r rest c k h2]
    refine ⟨?_, ⟨_, _, rfl⟩, fun x hx => ?_⟩
    · rw [i2] at i1 ⊢
      show r ++ c :: glue c (a :: L) = _
      rw [i1]
    · rcases List.mem_cons.1 hx with rfl | hx
      · exact h2
      · exact i3 x hx

theorem split_list (c : UInt8) (s : ByteArray) : glue c ((Lib.splitB ⟨#[c]⟩ 0 (Lib.countB s ⟨#[c]⟩) s).map (·.data.toList)) = s.data.toList ∧ ∀ a ∈ (Lib.splitB ⟨#[c]⟩ 0 (Lib.countB s ⟨#[c]⟩) s).map (·.data.toList), c ∉ a := by
  have hc : Lib.countB s ⟨#[c]⟩ = s.data.toList.count c := by
    have : Lib.countB s ⟨#[c]⟩ = Lib.count s.data.toList [c] := rfl
    rw [this, Lib.count_one]
  have := splitK_glue c (Lib.countB s ⟨#[c]⟩) s.data.toList hc.symm
  rw [Lib.splitB_data]
  exact ⟨this.1, this.2.2⟩

theorem glue_mem (c x : UInt8) : ∀ L : List (List UInt8), x ∈ glue c L → x = c ∨ ∃ a ∈ L, x ∈ a
  | [], h => by cases h
  | [a], h => .inr ⟨a, by simp, h⟩
  | a :: b :: L, h => by
    have h' : x ∈ a ++ c :: glue c (b :: L) := h
    rcases List.mem_append.1 h' with h1 | h1
    · exact .inr ⟨a, by simp, h1⟩
    · rcases List.mem_cons.1 h1 with h1 | h1
      · exact .inl h1
      · rcases glue_mem c x (b :: L) h1 with h2 | ⟨y, h2, h3⟩
        · exact .inl h2
        · exact .inr ⟨y, by simp [List.mem_cons.1 h2], h3⟩

theorem partOk_bytes {n : ByteArray} (h : partOk n = true) : n.data.toList.all byteOk = true := by
  unfold partOk at h
  simp only [Bool.and_eq_true] at h
  rw [← idx_all]
  exact h.2

/-- A path is of bytes from 33 to 126. -/
theorem path_bytes {s : ByteArray} (h : pathOk s = true) : ∀ c ∈ s.data.toList, 33 ≤ c.toNat ∧ c.toNat ≤ 126 := by
  intro c hc
  have hg := (split_list 47 s).1
  rw [← hg] at hc
  rcases glue_mem 47 c _ hc with rfl | ⟨a, ha, hca⟩
  · decide
  · obtain ⟨n, hn, rfl⟩ := List.mem_map.1 ha
    unfold pathOk at h
    simp only [Bool.and_eq_true] at h
    have h2 := List.all_eq_true.1 h.2 n hn
    have h3 := List.all_eq_true.1 (partOk_bytes h2) c hca
    simpa [byteOk] using h3

theorem path_no10 {s : ByteArray} (h : pathOk s = true) : (10 : UInt8) ∉ s.data.toList := fun hm => by
  have := path_bytes h 10 hm
  revert this
  decide

end Go.Proofs.YtbodemkmjemdjaaDoor
