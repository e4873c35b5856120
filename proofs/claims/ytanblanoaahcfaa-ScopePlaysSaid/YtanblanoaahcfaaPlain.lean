/-
  The plain law of scopes: what Open, Close and Declare do to the names' marks and the blocks' names keeps its order; what lies in outer blocks is not touched.
-/
import Derived.Test.YtanblanoaahcfaaClose
namespace Go.Proofs.Ytanblanoaahcfaa

/-- The marks of each name rise; they lie in blocks that are there; each block's names are those that have a mark of it, none twice. -/
structure Inv (nm : ByteArray → List (Nat × Bool)) (bl : List (List ByteArray)) : Prop where
  rise : ∀ s, (nm s).Pairwise (fun a b => a.1 < b.1)
  lt : ∀ s, ∀ a ∈ nm s, a.1 < bl.length
  nodup : ∀ l ∈ bl, l.Nodup
  mem : ∀ (i : Nat) (l : List ByteArray) (s : ByteArray), bl[i]? = some l → (s ∈ l ↔ ∃ t, (i, t) ∈ nm s)

theorem Inv.new : Inv (fun _ => []) [[]] := by
  refine ⟨by simp, by simp, by simp, ?_⟩
  intro i l s h
  rcases i with _ | i
  · simp at h; subst h; simp
  · simp at h

theorem declMarks_rise {m : Nat} {t : Bool} {l : List (Nat × Bool)} (h : l.Pairwise (fun a b => a.1 < b.1)) (hl : ∀ a ∈ l, a.1 ≤ m) : (declMarks m t l).Pairwise (fun a b => a.1 < b.1) ∧ (∀ a ∈ declMarks m t l, a.1 ≤ m) ∧ (∀ i b, i ≠ m → ((i, b) ∈ declMarks m t l ↔ (i, b) ∈ l)) ∧ (m, t) ∈ declMarks m t l := by
  unfold declMarks
  split
  · rename_i hlast
    have hne : l ≠ [] := by rintro rfl; simp at hlast
    obtain ⟨d, x, rfl⟩ : ∃ d x, l = d ++ [x] := ⟨l.dropLast, l.getLast hne, (List.dropLast_concat_getLast hne).symm⟩
    have hx : x.1 = m := by simpa using hlast
    rw [List.dropLast_concat]
    rw [List.pairwise_append] at h ⊢
    refine ⟨⟨h.1, by simp, ?_⟩, ?_, ?_, by simp⟩
    · intro a ha b hb
      have := h.2.2 a ha x (by simp)
      simp at hb; subst hb; simpa [hx] using this
    · intro a ha
      rcases List.mem_append.1 ha with h1 | h1
      · exact hl a (by simp [h1])
      · simp at h1; subst h1; exact Nat.le_refl _
    · intro i b hi
      have hxi : (i, b) ≠ x := by rintro rfl; exact hi hx
      simp [hi, hxi]
  · rename_i hlast
    have hlt : ∀ a ∈ l, a.1 < m := by
      intro a ha
      have h1 := hl a ha
      rcases Nat.lt_or_ge a.1 m with h2 | h2
      · exact h2
      · exfalso
        have hne : l ≠ [] := by rintro rfl; simp at ha
        obtain ⟨d, x, rfl⟩ : ∃ d x, l = d ++ [x] := ⟨l.dropLast, l.getLast hne, (List.dropLast_concat_getLast hne).symm⟩
        have hxm : x.1 ≠ m := by simpa using hlast
        have hxl := hl x (by simp)
        rcases List.mem_append.1 ha with h3 | h3
        · have := (List.pairwise_append.1 h).2.2 a h3 x (by simp)
          omega
        · simp at h3; subst h3; omega
    refine ⟨?_, ?_, ?_, by simp⟩
    · rw [List.pairwise_append]
      exact ⟨h, by simp, fun a ha b hb => by simp at hb; subst hb; exact hlt a ha⟩
    · intro a ha
      rcases List.mem_append.1 ha with h1 | h1
      · exact hl a h1
      · simp at h1; subst h1; exact Nat.le_refl _
    · intro i b hi
      simp [hi]

/-- Marks of other blocks than m are as they were. -/
theorem declMarks_filter {m : Nat} {t : Bool} {l : List (Nat × Bool)} (p : Nat → Bool) (hp : p m = false) : (declMarks m t l).filter (fun a => p a.1) = l.filter (fun a => p a.1) := by
  unfold declMarks
  split
  · rename_i hlast
    have hne : l ≠ [] := by rintro rfl; simp at hlast
    obtain ⟨d, x, rfl⟩ : ∃ d x, l = d ++ [x] := ⟨l.dropLast, l.getLast hne, (List.dropLast_concat_getLast hne).symm⟩
    have hx : x.1 = m := by simpa using hlast
    simp [List.filter_append, hp, hx]
  · simp [List.filter_append, hp]

theorem getLast_mem_iff {m : Nat} {l : List (Nat × Bool)} (h : l.Pairwise (fun a b => a.1 < b.1)) (hl : ∀ a ∈ l, a.1 ≤ m) : ((l.getLast?).map (·.1) = some m) ↔ ∃ t, (m, t) ∈ l := by
  constructor
  · intro hlast
    have hne : l ≠ [] := by rintro rfl; simp at hlast
    obtain ⟨d, x, rfl⟩ : ∃ d x, l = d ++ [x] := ⟨l.dropLast, l.getLast hne, (List.dropLast_concat_getLast hne).symm⟩
    have hx : x.1 = m := by simpa using hlast
    exact ⟨x.2, by simp [← hx]⟩
  · rintro ⟨t, ht⟩
    have hne : l ≠ [] := by rintro rfl; simp at ht
    obtain ⟨d, x, rfl⟩ : ∃ d x, l = d ++ [x] := ⟨l.dropLast, l.getLast hne, (List.dropLast_concat_getLast hne).symm⟩
    have hxl := hl x (by simp)
    rcases List.mem_append.1 ht with h3 | h3
    · have := (List.pairwise_append.1 h).2.2 _ h3 x (by simp)
      simp at this; omega
    · simp at h3; simp [← h3]

theorem Inv.decl {nm bl} (h : Inv nm bl) (hp : 1 ≤ bl.length) (s : ByteArray) (t : Bool) : Inv (declN bl s t nm) (declB nm s bl) := by
  have hl : (declB nm s bl).length = bl.length := by unfold declB; split <;> simp
  have hle : ∀ a ∈ nm s, a.1 ≤ bl.length - 1 := fun a ha => by have := h.lt s a ha; omega
  obtain ⟨m1, m2, m3, m4⟩ := declMarks_rise (t := t) (h.rise s) hle
  have hiff := getLast_mem_iff (h.rise s) hle
  obtain ⟨L, hL⟩ : ∃ L, bl[bl.length - 1]? = some L := ⟨bl[bl.length - 1], List.getElem?_eq_getElem (by omega)⟩
  have hgd : bl.getD (bl.length - 1) [] = L := by rw [List.getD_eq_getElem?_getD, hL]; rfl
  have hLm : L ∈ bl := List.mem_of_getElem? hL
  have hdB : ∀ (i : Nat) (l : List ByteArray), (declB nm s bl)[i]? = some l → (i ≠ bl.length - 1 ∧ bl[i]? = some l) ∨ (i = bl.length - 1 ∧ ((s ∈ L ∧ l = L) ∨ (s ∉ L ∧ l = L ++ [s]))) := by
    intro i l hi
    unfold declB at hi
    by_cases e : i = bl.length - 1
    · right
      refine ⟨e, ?_⟩
      subst e
      split at hi
      · rename_i hc
        left
        rw [hL] at hi; cases hi
        exact ⟨(h.mem _ _ s hL).2 (hiff.1 hc), rfl⟩
      · rename_i hc
        right
        rw [List.getElem?_set_self (by omega), hgd] at hi
        cases hi
        exact ⟨fun hs => hc (hiff.2 ((h.mem _ _ s hL).1 hs)), rfl⟩
    · left
      refine ⟨e, ?_⟩
      split at hi
      · exact hi
      · rw [List.getElem?_set_ne (by omega)] at hi; exact hi
  refine ⟨?_, ?_, ?_, ?_⟩
  · intro k
    unfold declN
    split
    · exact m1
    · exact h.rise k
  · intro k a ha
    rw [hl]
    unfold declN at ha
    split at ha
    · have := m2 a ha; omega
    · exact h.lt k a ha
  · intro l hl'
    obtain ⟨i, hi⟩ := List.mem_iff_getElem?.1 hl'
    rcases hdB i l hi with ⟨_, h1⟩ | ⟨_, ⟨_, rfl⟩ | ⟨h1, rfl⟩⟩
    · exact h.nodup l (List.mem_of_getElem? h1)
    · exact h.nodup _ hLm
    · rw [List.nodup_append]
      exact ⟨h.nodup _ hLm, by simp, fun a ha b hb => by simp at hb; subst hb; rintro rfl; exact h1 ha⟩
  · intro i l k hi
    rcases hdB i l hi with ⟨e, h1⟩ | ⟨rfl, h1⟩
    · rw [h.mem i l k h1]
      unfold declN
      split
      · rename_i e2; subst e2
        constructor
        · rintro ⟨b, hb⟩; exact ⟨b, (m3 i b e).2 hb⟩
        · rintro ⟨b, hb⟩; exact ⟨b, (m3 i b e).1 hb⟩
      · exact Iff.rfl
    · unfold declN
      by_cases e2 : k = s
      · subst e2
        rw [if_pos rfl]
        refine ⟨fun _ => ⟨t, m4⟩, fun _ => ?_⟩
        rcases h1 with ⟨h2, rfl⟩ | ⟨_, rfl⟩
        · exact h2
        · simp
      · rw [if_neg e2, ← h.mem _ _ k hL]
        rcases h1 with ⟨_, rfl⟩ | ⟨_, rfl⟩
        · exact Iff.rfl
        · simp [e2]

theorem Inv.decl' {nm bl} (h : Inv nm bl) (hp : 1 ≤ bl.length) (s : ByteArray) (t : Bool) : Inv (declN' bl s t nm) (declB' nm s bl) := by
  unfold declN' declB'
  split
  · exact h
  · exact h.decl hp s t

theorem Inv.opened {nm bl} (h : Inv nm bl) : Inv nm (openB bl) := by
  unfold openB
  split
  · exact h
  · refine ⟨h.rise, fun s a ha => by have := h.lt s a ha; simp; omega, ?_, ?_⟩
    · intro l hl
      rcases List.mem_append.1 hl with h1 | h1
      · exact h.nodup l h1
      · simp at h1; subst h1; simp
    · intro i l s hi
      rw [List.getElem?_append] at hi
      split at hi
      · exact h.mem i l s hi
      · rename_i hge
        rcases hd : i - bl.length with _ | j
        · rw [hd] at hi; simp at hi; subst hi
          refine ⟨fun h1 => by simp at h1, ?_⟩
          rintro ⟨b, hb⟩
          have := h.lt s _ hb
          simp at this; omega
        · rw [hd] at hi; simp at hi

/-- What Close makes of the names: the marks of the innermost block go. -/
theorem closeN_eq {nm bl} (h : Inv nm bl) (m : Nat) (hl : bl.length = m + 1) (L : List ByteArray) (hL : bl[m]? = some L) (s : ByteArray) : closeN L nm s = (nm s).filter (fun a => decide (a.1 < m)) := by
  have hle : ∀ a ∈ nm s, a.1 ≤ m := fun a ha => by have := h.lt s a ha; omega
  have hr := h.rise s
  unfold closeN
  by_cases hs : s ∈ L
  · rw [if_pos (hasN_iff.2 hs)]
    have hlast := (getLast_mem_iff hr hle).2 ((h.mem m L s hL).1 hs)
    have hne : nm s ≠ [] := by intro e; rw [e] at hlast; simp at hlast
    obtain ⟨d, x, hd⟩ : ∃ d x, nm s = d ++ [x] := ⟨(nm s).dropLast, (nm s).getLast hne, (List.dropLast_concat_getLast hne).symm⟩
    rw [hd] at hlast hr ⊢
    have hx : x.1 = m := by simpa using hlast
    rw [List.dropLast_concat, List.filter_append]
    have : d.filter (fun a => decide (a.1 < m)) = d := List.filter_eq_self.2 (fun a ha => by
      have := (List.pairwise_append.1 hr).2.2 a ha x (by simp)
      simp; omega)
    rw [this]
    simp [hx]
  · rw [if_neg (fun e => hs (hasN_iff.1 e))]
    refine (List.filter_eq_self.2 (fun a ha => ?_)).symm
    have h1 := hle a ha
    have h2 : a.1 ≠ m := fun e => hs ((h.mem m L s hL).2 ⟨a.2, by rw [← e]; exact ha⟩)
    simp; omega

theorem Inv.closed {nm bl} (h : Inv nm bl) (m : Nat) (hl : bl.length = m + 1) (L : List ByteArray) (hL : bl[m]? = some L) : Inv (closeN L nm) bl.dropLast := by
  have hlen : bl.dropLast.length = m := by simp [hl]
  refine ⟨fun s => ?_, fun s a ha => ?_, fun l hl' => h.nodup l (List.dropLast_subset _ hl'), fun i l s hi => ?_⟩
  · rw [closeN_eq h m hl L hL s]; exact (h.rise s).sublist List.filter_sublist
  · rw [closeN_eq h m hl L hL s] at ha
    rw [hlen]
    simpa using (List.mem_filter.1 ha).2
  · rw [List.getElem?_dropLast] at hi
    split at hi
    · rename_i hlt
      rw [h.mem i l s hi, closeN_eq h m hl L hL s]
      constructor
      · rintro ⟨b, hb⟩; exact ⟨b, List.mem_filter.2 ⟨hb, by simp; omega⟩⟩
      · rintro ⟨b, hb⟩; exact ⟨b, (List.mem_filter.1 hb).1⟩
    · cases hi

end Go.Proofs.Ytanblanoaahcfaa
