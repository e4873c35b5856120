/-
  The program's scope and the reference's say the same: the marks of each name are those of the list.
-/
import Derived.Test.YtanblanoaahcfaaRefClose
import Derived.Test.YtanblanoaahcfaaClose2
namespace Go.Proofs.Ytanblanoaahcfaa

theorem snocInd {α : Type} {P : List α → Prop} (nil : P []) (snoc : ∀ l x, P l → P (l ++ [x])) : ∀ l, P l := by
  have h : ∀ r : List α, P r.reverse := by
    intro r
    induction r with
    | nil => exact nil
    | cons x r ih => rw [List.reverse_cons]; exact snoc _ _ ih
  intro l
  have := h l.reverse
  rwa [List.reverse_reverse] at this

/-- The marks that the list gives a name. -/
def marksOf (s : ByteArray) (all : List SaidT) : List (Nat × Bool) := (all.filter (fun x => decide (x.2.1 = s))).foldl (fun l x => declMarks x.1 x.2.2 l) []

theorem marksOf_snoc (s : ByteArray) (all : List SaidT) (x : SaidT) : marksOf s (all ++ [x]) = if x.2.1 = s then declMarks x.1 x.2.2 (marksOf s all) else marksOf s all := by
  unfold marksOf
  rw [List.filter_append, List.foldl_append]
  by_cases h : x.2.1 = s
  · simp [h]
  · simp [h]

theorem mem_declMarks {m : Nat} {t : Bool} {l : List (Nat × Bool)} {a : Nat × Bool} (h : a ∈ declMarks m t l) : a ∈ l ∨ a = (m, t) := by
  unfold declMarks at h
  split at h
  · rcases List.mem_append.1 h with h1 | h1
    · exact .inl (List.dropLast_subset _ h1)
    · exact .inr (by simpa using h1)
  · rcases List.mem_append.1 h with h1 | h1
    · exact .inl h1
    · exact .inr (by simpa using h1)

/-- A mark is of a block that the list names. -/
theorem mem_marksOf (s : ByteArray) (all : List SaidT) : ∀ a ∈ marksOf s all, ∃ x ∈ all, x.1 = a.1 := by
  refine snocInd (P := fun all => ∀ a ∈ marksOf s all, ∃ x ∈ all, x.1 = a.1) ?_ ?_ all
  · intro a h; simp [marksOf] at h
  · intro all x ih a h
    rw [marksOf_snoc] at h
    split at h
    · rcases mem_declMarks h with h1 | h1
      · obtain ⟨y, hy, e⟩ := ih a h1
        exact ⟨y, by simp [hy], e⟩
      · exact ⟨x, by simp, by rw [h1]⟩
    · obtain ⟨y, hy, e⟩ := ih a h
      exact ⟨y, by simp [hy], e⟩

theorem rise_snoc {all : List SaidT} {x : SaidT} (h : (all ++ [x]).Pairwise (fun a b => a.1 ≤ b.1)) : all.Pairwise (fun a b => a.1 ≤ b.1) ∧ ∀ a ∈ all, a.1 ≤ x.1 := by
  rw [List.pairwise_append] at h
  exact ⟨h.1, fun a ha => h.2.2 a ha x (by simp)⟩

/-- What the reference's IsType finds is the last mark. -/
theorem foldT_marks (s : ByteArray) (all : List SaidT) : all.Pairwise (fun a b => a.1 ≤ b.1) → foldT s all = match (marksOf s all).getLast? with | none => (-1, false) | some m => ((m.1 : Int), m.2) := by
  refine snocInd (P := fun all => all.Pairwise (fun a b => a.1 ≤ b.1) → foldT s all = match (marksOf s all).getLast? with | none => (-1, false) | some m => ((m.1 : Int), m.2)) ?_ ?_ all
  · intro _; rfl
  · intro all x ih h
    obtain ⟨h1, h2⟩ := rise_snoc h
    have e : foldT s (all ++ [x]) = stepT s (foldT s all) x := by unfold foldT; rw [List.foldl_append]; rfl
    rw [e, marksOf_snoc]
    unfold stepT
    by_cases hs : x.2.1 = s
    · have hle : (foldT s all).1 ≤ (x.1 : Int) := by
        rw [ih h1]
        cases hl : (marksOf s all).getLast? with
        | none => simp
        | some m =>
          obtain ⟨y, hy, ey⟩ := mem_marksOf s all m (List.mem_of_getLast? hl)
          have := h2 y hy
          simp; omega
      have hd : (declMarks x.1 x.2.2 (marksOf s all)).getLast? = some (x.1, x.2.2) := by
        unfold declMarks
        split <;> simp
      rw [if_pos ⟨hs, hle⟩, if_pos hs, hd]
    · rw [if_neg (fun c => hs c.1), if_neg hs]
      exact ih h1

theorem foldT_last (s : ByteArray) (all : List SaidT) (h : all.Pairwise (fun a b => a.1 ≤ b.1)) : (foldT s all).2 = lastB (marksOf s all) := by
  rw [foldT_marks s all h]
  unfold lastB
  cases (marksOf s all).getLast? <;> rfl

/-- The marks of what Close leaves of the list. -/
theorem marks_outer (s : ByteArray) (m : Nat) (all : List SaidT) : all.Pairwise (fun a b => a.1 ≤ b.1) → marksOf s (outerA m all) = (marksOf s all).filter (fun a => decide (a.1 < m)) := by
  refine snocInd (P := fun all => all.Pairwise (fun a b => a.1 ≤ b.1) → marksOf s (outerA m all) = (marksOf s all).filter (fun a => decide (a.1 < m))) ?_ ?_ all
  · intro _; rfl
  · intro all x ih h
    obtain ⟨h1, h2⟩ := rise_snoc h
    by_cases hx : x.1 < m
    · have e : outerA m (all ++ [x]) = all ++ [x] := by
        unfold outerA
        refine List.filter_eq_self.2 fun a ha => ?_
        rcases List.mem_append.1 ha with h3 | h3
        · have := h2 a h3; simp; omega
        · simp at h3; subst h3; simpa using hx
      rw [e]
      refine (List.filter_eq_self.2 fun a ha => ?_).symm
      obtain ⟨y, hy, ey⟩ := mem_marksOf s _ a ha
      rcases List.mem_append.1 hy with h3 | h3
      · have := h2 y h3; simp; omega
      · simp at h3; subst h3; simp; omega
    · have e : outerA m (all ++ [x]) = outerA m all := by
        unfold outerA
        rw [List.filter_append]
        simp [hx]
      rw [e, ih h1, marksOf_snoc]
      split
      · exact (declMarks_filter (fun b => decide (b < m)) (by simpa using hx)).symm
      · rfl

/-- The two say the same; k steps have been taken. -/
structure Same (k : Nat) (nm : ByteArray → List (Nat × Bool)) (bl : List (List ByteArray)) (many : Nat) (all : List SaidT) : Prop where
  size : bl.length = many
  rise : all.Pairwise (fun a b => a.1 ≤ b.1)
  lt : ∀ x ∈ all, x.1 < many
  marks : ∀ s, nm s = marksOf s all
  len : all.length ≤ k

theorem Same.new : Same 0 (fun _ => []) [[]] 1 [] := ⟨rfl, by simp, by simp, fun _ => rfl, by simp⟩
theorem Same.mono {k k' nm bl many all} (h : Same k nm bl many all) (hk : k ≤ k') : Same k' nm bl many all := ⟨h.size, h.rise, h.lt, h.marks, Nat.le_trans h.len hk⟩

theorem Same.is {k nm bl many all} (h : Same k nm bl many all) (s : ByteArray) : (foldT s all).2 = lastB (nm s) := by
  rw [h.marks s]; exact foldT_last s all h.rise

theorem Same.opened {k nm bl many all} (h : Same k nm bl many all) : Same (k + 1) nm (openB bl) (if many = 65536 then many else many + 1) all := by
  unfold openB
  rw [h.size]
  split
  · exact h.mono (by omega)
  · exact ⟨by simp [h.size], h.rise, fun x hx => by have := h.lt x hx; omega, h.marks, by have := h.len; omega⟩

theorem Same.decl {k nm bl many all} (h : Same k nm bl many all) (hp : 1 ≤ many) (s : ByteArray) (t : Bool) : Same (k + 1) (declN' bl s t nm) (declB' nm s bl) many (declA (many - 1) s t all) := by
  unfold declN' declB' declA
  split
  · exact h.mono (by omega)
  · refine ⟨?_, ?_, ?_, fun q => ?_, by have := h.len; simp; omega⟩
    · have : (declB nm s bl).length = bl.length := by unfold declB; split <;> simp
      rw [this]; exact h.size
    · rw [List.pairwise_append]
      refine ⟨h.rise, by simp, fun a ha b hb => ?_⟩
      simp at hb; subst hb
      have := h.lt a ha
      simp; omega
    · intro x hx
      rcases List.mem_append.1 hx with h1 | h1
      · exact h.lt x h1
      · simp at h1; subst h1; simp; omega
    · rw [marksOf_snoc]
      unfold declN
      by_cases e : s = q
      · subst e
        simp [h.marks, h.size]
      · have e' : ¬ q = s := fun c => e c.symm
        simp [e, e', h.marks]

theorem Same.shut {k nm bl many all} (h : Same k nm bl many all) (hI : Inv nm bl) (hp : 1 ≤ many) : Same (k + 1) (closeNm bl nm) (closeBl bl) (if many = 1 then many else many - 1) (if many = 1 then all else outerA (many - 1) all) := by
  unfold closeNm closeBl
  rw [h.size]
  by_cases e : many = 1
  · simp only [if_pos e]
    exact h.mono (by omega)
  · simp only [if_neg e]
    have hl : bl.length = (many - 1) + 1 := by rw [h.size]; omega
    have hL := lastL (bl := bl) (by rw [h.size]; exact hp)
    rw [h.size] at hL
    refine ⟨by simp [h.size], h.rise.sublist List.filter_sublist, fun x hx => by simpa using (List.mem_filter.1 hx).2, fun s => ?_, by have := outerA_length (many - 1) all; have := h.len; omega⟩
    rw [closeN_eq hI (many - 1) hl _ hL s, marks_outer s _ all h.rise, h.marks s]

end Go.Proofs.Ytanblanoaahcfaa
