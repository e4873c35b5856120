/-
  What a text says has that text.
-/
import Derived.Test.YtbodemkmjemdjaaDoorReadP
namespace Go.Proofs.YtbodemkmjemdjaaDoor
open Go.RowKit

/-! ### What editF answers, way by way -/
section
variable {X : List ByteArray} {n : Nat} {last : Int}
def dashAt (X : List ByteArray) (k : Nat) : Bool := (nowF X k).2 && (nowF X k).1.toList == [45]
def dashBad (X : List ByteArray) (many k : Nat) : Bool := decide (many = 0) || (X[k - 1]?.getD ⟨#[]⟩).toList == [43, 10]
def signOf (many : Nat) : ByteArray := if many = 0 then ⟨#[]⟩ else ⟨#[43]⟩
theorem editF_none (h : editLine (nowF X n) = false) : editF X n last = .halts n false := by
  unfold editF
  rw [if_neg (by rw [h]; simp)]
theorem editF_head (h : editLine (nowF X n) = true) (h2 : headF ((nowF X n).1.extract 2 (nowF X n).1.size) = none) : editF X n last = .halts n true := by
  unfold editF
  rw [if_pos h, h2]
variable {e : Ed} {m : Nat}
theorem editF_next (h : editLine (nowF X n) = true) (h2 : headF ((nowF X n).1.extract 2 (nowF X n).1.size) = some (e, m)) (h3 : nextF ⟨e.fr, e.tt, signOf m⟩ last = false) : editF X n last = .halts n true := by
  unfold signOf at h3
  unfold editF
  rw [if_pos h, h2]
  dsimp only
  rw [if_neg (by rw [h3]; simp)]
theorem editF_take (h : editLine (nowF X n) = true) (h2 : headF ((nowF X n).1.extract 2 (nowF X n).1.size) = some (e, m)) (h3 : nextF ⟨e.fr, e.tt, signOf m⟩ last = true) (h4 : (takeF X m (n + 1) ⟨#[]⟩).2.2 = false) :
    editF X n last = .halts (takeF X m (n + 1) ⟨#[]⟩).2.1 true := by
  unfold signOf at h3
  unfold editF
  rw [if_pos h, h2]
  dsimp only
  rw [if_pos h3, if_neg (by rw [h4]; simp)]
theorem editF_bad (h : editLine (nowF X n) = true) (h2 : headF ((nowF X n).1.extract 2 (nowF X n).1.size) = some (e, m)) (h3 : nextF ⟨e.fr, e.tt, signOf m⟩ last = true) (h4 : (takeF X m (n + 1) ⟨#[]⟩).2.2 = true)
    (h5 : dashAt X (takeF X m (n + 1) ⟨#[]⟩).2.1 = true) (h6 : dashBad X m (takeF X m (n + 1) ⟨#[]⟩).2.1 = true) : editF X n last = .halts (takeF X m (n + 1) ⟨#[]⟩).2.1 true := by
  unfold signOf at h3
  unfold dashAt at h5
  unfold dashBad at h6
  unfold editF
  rw [if_pos h, h2]
  dsimp only
  rw [if_pos h3, if_pos h4, if_pos h5, if_pos h6]
theorem editF_dash (h : editLine (nowF X n) = true) (h2 : headF ((nowF X n).1.extract 2 (nowF X n).1.size) = some (e, m)) (h3 : nextF ⟨e.fr, e.tt, signOf m⟩ last = true) (h4 : (takeF X m (n + 1) ⟨#[]⟩).2.2 = true)
    (h5 : dashAt X (takeF X m (n + 1) ⟨#[]⟩).2.1 = true) (h6 : dashBad X m (takeF X m (n + 1) ⟨#[]⟩).2.1 = false) :
    editF X n last = .gives ⟨e.fr, e.tt, ⟨(Lib.trimSuffix (takeF X m (n + 1) ⟨#[]⟩).1.data.toList [10]).toArray⟩⟩ ((takeF X m (n + 1) ⟨#[]⟩).2.1 + 1) := by
  unfold signOf at h3
  unfold dashAt at h5
  unfold dashBad at h6
  unfold editF
  rw [if_pos h, h2]
  dsimp only
  rw [if_pos h3, if_pos h4, if_pos h5, if_neg (by rw [h6]; simp)]
theorem editF_full (h : editLine (nowF X n) = true) (h2 : headF ((nowF X n).1.extract 2 (nowF X n).1.size) = some (e, m)) (h3 : nextF ⟨e.fr, e.tt, signOf m⟩ last = true) (h4 : (takeF X m (n + 1) ⟨#[]⟩).2.2 = true)
    (h5 : dashAt X (takeF X m (n + 1) ⟨#[]⟩).2.1 = false) :
    editF X n last = .gives ⟨e.fr, e.tt, (takeF X m (n + 1) ⟨#[]⟩).1⟩ (takeF X m (n + 1) ⟨#[]⟩).2.1 := by
  unfold signOf at h3
  unfold dashAt at h5
  unfold editF
  rw [if_pos h, h2]
  dsimp only
  rw [if_pos h3, if_pos h4, if_neg (by rw [h5]; simp)]
end

theorem take_mono (X : List ByteArray) : ∀ (m k : Nat) (t : ByteArray), k ≤ (takeF X m k t).2.1 := by
  intro m
  induction m with
  | zero => intro k t; exact Nat.le_refl _
  | succ m ih =>
    intro k t
    unfold takeF
    split
    · exact Nat.le_trans (Nat.le_succ k) (ih _ _)
    · exact Nat.le_refl _

theorem suffix_inv {l : List UInt8} (h : Lib.hasSuffix l [10] = true) : ∃ r, l = r ++ [10] := by
  obtain ⟨r, hr⟩ := List.isSuffixOf_iff_suffix.1 h
  exact ⟨r, hr.symm⟩

theorem now_inv {X : List ByteArray} {n : Nat} (h : (nowF X n).2 = true) : X[n]? = some (line (nowF X n).1.data.toList) := by
  unfold nowF at h ⊢
  cases hx : X[n]? with
  | none => rw [hx] at h; cases h
  | some x =>
    rw [hx] at h
    dsimp only at h ⊢
    obtain ⟨r, hr⟩ := suffix_inv h
    congr 1
    apply bytes_eq
    rw [line_bytes]
    show x.data.toList = Lib.trimSuffix x.data.toList [10] ++ [10]
    rw [hr, trim_line]

theorem drop_line {X : List ByteArray} {n : Nat} {x : ByteArray} (h : X[n]? = some x) : joinB (X.drop n) = x.data.toList ++ joinB (X.drop (n + 1)) := by
  obtain ⟨hk, hc⟩ := List.getElem?_eq_some_iff.1 h
  rw [List.drop_eq_getElem_cons hk, hc]
  simp [joinB]

/-- Lines of a text have no byte 10 but at their end. -/
def Lined (X : List ByteArray) : Prop := ∀ (n : Nat) (r : List UInt8), X[n]? = some (line r) → 10 ∉ r

theorem lined_of (s : ByteArray) : Lined (linesOf s) := by
  intro n r h
  obtain ⟨Y, t, h1, h2, h3, _⟩ := lines_shape s.data.toList.length s.data.toList (Nat.le_refl _)
  have h1' : linesOf s = Y ++ (if t = [] then [] else [⟨t.toArray⟩]) := h1
  rw [h1'] at h
  have hm := List.mem_of_getElem? h
  rcases List.mem_append.1 hm with hm | hm
  · obtain ⟨q, hq, hq2⟩ := h2 _ hm
    rw [line_bytes] at hq
    have := List.append_inj_left' hq (by simp)
    rw [this]
    exact hq2
  · split at hm
    · cases hm
    · have : line r = ⟨t.toArray⟩ := by simpa using hm
      have e : (line r).data.toList = t := by rw [this]
      rw [line_bytes] at e
      exact (h3 (by rw [← e]; simp)).elim

theorem take_inv (X : List ByteArray) : ∀ (m n : Nat) (t : ByteArray), (takeF X m n t).2.2 = true → ∃ Y : List (List UInt8), Y.length = m ∧ (takeF X m n t).2.1 = n + m ∧ (takeF X m n t).1.data.toList = t.data.toList ++ unl Y ∧
    joinB (X.drop n) = unl (Y.map (43 :: ·)) ++ joinB (X.drop (n + m)) ∧ ∀ i r, Y[i]? = some r → X[n + i]? = some (line (43 :: r))
  | 0, n, t, _ => ⟨[], rfl, rfl, by simp [takeF, unl], by simp [unl], fun i r h => by simp at h⟩
  | m + 1, n, t, h => by
    unfold takeF at h ⊢
    by_cases hp : plusLine (nowF X n) = true
    · rw [if_pos hp] at h ⊢
      obtain ⟨Y, h1, h2, h3, h4, h5⟩ := take_inv X m (n + 1) _ h
      unfold plusLine at hp
      simp only [Bool.and_eq_true] at hp
      have hx := now_inv hp.1
      obtain ⟨q, hq⟩ : ∃ q, (nowF X n).1.data.toList = 43 :: q := by
        have := hp.2
        unfold Lib.hasPrefix at this
        obtain ⟨q, hq⟩ := List.isPrefixOf_iff_prefix.1 this
        exact ⟨q, hq.symm⟩
      rw [hq] at hx
      refine ⟨q :: Y, by simp [h1], by rw [h2]; omega, ?_, ?_, ?_⟩
      · rw [h3, unl_cons]
        have e : ((nowF X n).1.extract 1 (nowF X n).1.size).data.toList = q := by
          simp only [ByteArray.data_extract, Array.toList_extract, List.extract_eq_take_drop]
          have e1 : (nowF X n).1.size = q.length + 1 := by rw [Lib.size_eq, hq]; simp
          rw [hq, e1]
          simp
        rw [ByteArray.data_append, Array.toList_append, ByteArray.data_append, Array.toList_append, e]
        simp
      · rw [drop_line hx, h4, List.map_cons, unl_cons, line_bytes, show n + 1 + m = n + (m + 1) by omega]
        simp
      · intro i r hi
        cases i with
        | zero =>
          obtain rfl : q = r := by simpa using hi
          exact hx
        | succ i =>
          have := h5 i r (by simpa using hi)
          rw [show n + (i + 1) = n + 1 + i by omega]
          exact this
    · rw [if_neg hp] at h
      cases h

theorem words_said {s : ByteArray} {a b c : ByteArray} (h : wordsOf s = [a, b, c]) : s.data.toList = a.data.toList ++ 32 :: (b.data.toList ++ 32 :: c.data.toList) := by
  have := (split_list 32 s).1
  have e : Lib.splitB ⟨#[32]⟩ 0 (Lib.countB s ⟨#[32]⟩) s = wordsOf s := rfl
  rw [e, h] at this
  exact this.symm

theorem head_inv {s : ByteArray} {e : Ed} {m : Nat} (h : headF s = some (e, m)) : 0 ≤ e.fr ∧ e.fr ≤ e.tt ∧ e.tx = ⟨#[]⟩ ∧ m ≤ 65536 ∧ s.data.toList = Lib.itoa (e.fr + 1) ++ 32 :: (Lib.itoa (e.tt - e.fr) ++ 32 :: Lib.itoa (m : Int)) := by
  unfold headF at h
  split at h
  · rename_i a b c hw
    split at h
    · rename_i x y z hx hy hz
      split at h
      · rename_i hle
        simp only [Option.some.injEq, Prod.mk.injEq] at h
        obtain ⟨rfl, rfl⟩ := h
        have bx := numF_bounds hx
        have bY := numF_bounds hy
        have bz := numF_bounds hz
        have sx := numF_spells hx
        have sy := numF_spells hy
        have sz := numF_spells hz
        refine ⟨by dsimp only; omega, by dsimp only; omega, rfl, by omega, ?_⟩
        rw [words_said hw, ← sx, ← sy, ← sz]
        have e1 : x - 1 + 1 = x := by omega
        have e2 : x - 1 + y - (x - 1) = y := by omega
        have e3 : (z.toNat : Int) = z := by omega
        dsimp only
        rw [e1, e2, e3]
      · cases h
    · cases h
  · cases h

/-- An edit whose lines are given has this text. -/
theorem edText_whole (e : Ed) (Y : List (List UInt8)) (hY : ∀ r ∈ Y, 10 ∉ r) (h : e.tx.data.toList = unl Y) : (linesOf e.tx).length = Y.length ∧ edText e = headL e ++ [10] ++ unl (Y.map (43 :: ·)) := by
  have ex : e.tx = ⟨(unl Y).toArray⟩ := bytes_eq h
  have hl : linesOf e.tx = Y.map line := by rw [ex]; exact linesOf_unl Y hY
  have h1 : (linesOf e.tx).length = Y.length := by rw [hl]; simp
  refine ⟨h1, ?_⟩
  have he : endText e = [] := by
    unfold endText
    by_cases hR : Y = []
    · rw [if_neg]
      rw [h1, hR]
      simp
    · rw [if_neg]
      rw [h, hasSuffix_unl Y hR]
      simp
  unfold edText
  rw [he, hl, headText_eq, List.append_nil]
  congr 1
  simp [linesText, unl, List.flatMap_map, line_bytes]

theorem edText_part (e : Ed) (Y : List (List UInt8)) (t : List UInt8) (hY : ∀ r ∈ Y, 10 ∉ r) (ht : t ≠ []) (ht2 : 10 ∉ t) (h : e.tx.data.toList = unl Y ++ t) :
    (linesOf e.tx).length = Y.length + 1 ∧ edText e = headL e ++ [10] ++ (unl ((Y ++ [t]).map (43 :: ·)) ++ [45, 10]) := by
  have ex : e.tx = ⟨(joinB (Y.map line) ++ t).toArray⟩ := bytes_eq (by rw [joinB_lines]; exact h)
  have hl : linesOf e.tx = Y.map line ++ [⟨t.toArray⟩] := by
    rw [ex, linesOf_lines _ _ (fun x hx => by
      obtain ⟨r, hr, rfl⟩ := List.mem_map.1 hx
      exact ⟨r, rfl, hY r hr⟩), lines_rest t ht2, if_neg ht]
  have h1 : (linesOf e.tx).length = Y.length + 1 := by rw [hl]; simp
  refine ⟨h1, ?_⟩
  have he : endText e = [10, 45, 10] := by
    unfold endText
    rw [if_pos]
    rw [h1, h, hasSuffix_not _ t ht ht2]
    exact ⟨by omega, rfl⟩
  unfold edText
  rw [he, hl, headText_eq]
  congr 1
  simp [linesText, unl, List.flatMap_map, line_bytes]

theorem next_text {e : Ed} {last : Int} {m : Nat} (h : nextF ⟨e.fr, e.tt, signOf m⟩ last = true) (tx : ByteArray) (hm : m ≠ 0 → tx.size ≠ 0) : nextF ⟨e.fr, e.tt, tx⟩ last = true := by
  simp only [nextF, Bool.and_eq_true, decide_eq_true_eq, Bool.or_eq_true] at h ⊢
  refine ⟨h.1, ?_⟩
  rcases h.2 with h2 | h2
  · exact .inl h2
  · right
    by_cases h0 : m = 0
    · unfold signOf at h2
      rw [if_pos h0] at h2
      exact (h2 rfl).elim
    · exact hm h0

theorem editF_said {X : List ByteArray} {n : Nat} {last : Int} (hX : Lined X) : (∃ n' b, editF X n last = .halts n' b ∧ n ≤ n' ∧ (b = false → n' = n)) ∨
    ∃ e n', editF X n last = .gives e n' ∧ joinB (X.drop n) = edText e ++ joinB (X.drop n') ∧ nextF e last = true ∧ (linesOf e.tx).length ≤ 65536 ∧ n < n' ∧ e.tx.size ≤ (joinB (X.drop n)).length := by
  by_cases hl : editLine (nowF X n) = true
  · cases hh : headF ((nowF X n).1.extract 2 (nowF X n).1.size) with
    | none => exact .inl ⟨_, _, editF_head hl hh, Nat.le_refl _, by simp⟩
    | some p =>
      obtain ⟨e0, m⟩ := p
      by_cases hn : nextF ⟨e0.fr, e0.tt, signOf m⟩ last = true
      · have hmono := take_mono X m (n + 1) ⟨#[]⟩
        by_cases ht : (takeF X m (n + 1) ⟨#[]⟩).2.2 = true
        · have hl0 := hl
          unfold editLine at hl
          simp only [Bool.and_eq_true] at hl
          have hx := now_inv hl.1
          obtain ⟨q, hq⟩ : ∃ q, (nowF X n).1.data.toList = 64 :: 32 :: q := by
            have := hl.2
            unfold Lib.hasPrefix at this
            obtain ⟨q, hq⟩ := List.isPrefixOf_iff_prefix.1 this
            exact ⟨q, hq.symm⟩
          have hex : ((nowF X n).1.extract 2 (nowF X n).1.size).data.toList = q := by
            simp only [ByteArray.data_extract, Array.toList_extract, List.extract_eq_take_drop]
            have e1 : (nowF X n).1.size = q.length + 2 := by rw [Lib.size_eq, hq]; simp
            rw [hq, e1]
            simp
          rw [hq] at hx
          obtain ⟨b1, b2, b3, b4, b5⟩ := head_inv hh
          rw [hex] at b5
          obtain ⟨Y, y1, y2, y3, y4, y5⟩ := take_inv X m (n + 1) ⟨#[]⟩ ht
          have hY10 : ∀ r ∈ Y, 10 ∉ r := by
            intro r hr
            obtain ⟨i, hi⟩ := List.getElem?_of_mem hr
            have := hX _ _ (y5 i r hi)
            simpa using this
          have y3' : (takeF X m (n + 1) ⟨#[]⟩).1.data.toList = unl Y := by simpa using y3
          have hhead : ∀ tx : ByteArray, (linesOf tx).length = m → line (64 :: 32 :: q) = ⟨(headL ⟨e0.fr, e0.tt, tx⟩ ++ [10]).toArray⟩ := by
            intro tx htx
            apply bytes_eq
            rw [line_bytes, b5]
            simp [headL, htx]
          have hul : (unl Y).length ≤ (unl (Y.map (43 :: ·))).length := by
            simp only [unl, List.flatMap_map, List.length_flatMap]
            clear y1 y4 y3 y3' y5 hY10
            induction Y with
            | nil => simp
            | cons r Y ih => simp only [List.map_cons, List.sum_cons, List.length_append, List.length_cons] at ih ⊢; omega
          have hlen : (joinB (X.drop n)).length = (line (64 :: 32 :: q)).data.toList.length + (unl (Y.map (43 :: ·))).length + (joinB (X.drop (n + 1 + m))).length := by
            rw [drop_line hx, y4]
            simp
            omega
          by_cases hd : dashAt X (takeF X m (n + 1) ⟨#[]⟩).2.1 = true
          · by_cases hb : dashBad X m (takeF X m (n + 1) ⟨#[]⟩).2.1 = true
            · exact .inl ⟨_, _, editF_bad hl0 hh hn ht hd hb, by omega, by simp⟩
            · have hb' : dashBad X m (takeF X m (n + 1) ⟨#[]⟩).2.1 = false := by simpa using hb
              refine .inr ⟨_, _, editF_dash hl0 hh hn ht hd hb', ?_⟩
              rw [y2] at hd hb hb' ⊢
              simp only [dashBad, Bool.or_eq_true, decide_eq_true_eq, not_or] at hb
              have hYne : Y ≠ [] := by
                intro h0
                rw [h0] at y1
                exact hb.1 y1.symm
              obtain ⟨A, r, rfl⟩ : ∃ A r, Y = A ++ [r] := ⟨Y.dropLast, Y.getLast hYne, (List.dropLast_concat_getLast hYne).symm⟩
              have hA : A.length + 1 = m := by simpa using y1
              have hr : r ≠ [] := by
                intro h0
                subst h0
                refine hb.2 ?_
                have := y5 A.length [] (by simp)
                rw [show n + 1 + m - 1 = n + 1 + A.length by omega, this, Option.getD_some, ByteArray.toList_eq, line_bytes]
                rfl
              have hu : unl (A ++ [r]) = (unl A ++ r) ++ [10] := by rw [unl_append, unl_cons]; simp [unl]
              have hts : Lib.trimSuffix (takeF X m (n + 1) ⟨#[]⟩).1.data.toList [10] = unl A ++ r := by rw [y3', hu, trim_line]
              have hr10 : 10 ∉ r := hY10 r (by simp)
              obtain ⟨p1, p2⟩ := edText_part ⟨e0.fr, e0.tt, ⟨(Lib.trimSuffix (takeF X m (n + 1) ⟨#[]⟩).1.data.toList [10]).toArray⟩⟩ A r (fun x hx => hY10 x (by simp [hx])) hr hr10 hts
              have p1' : (linesOf ⟨(Lib.trimSuffix (takeF X m (n + 1) ⟨#[]⟩).1.data.toList [10]).toArray⟩).length = m := p1.trans hA
              simp only [dashAt, Bool.and_eq_true] at hd
              have hx2 := now_inv hd.1
              have h45 : (nowF X (n + 1 + m)).1.data.toList = [45] := by
                have := beq_iff_eq.1 hd.2
                rw [ByteArray.toList_eq] at this
                exact this
              rw [h45] at hx2
              have hsz : (⟨(Lib.trimSuffix (takeF X m (n + 1) ⟨#[]⟩).1.data.toList [10]).toArray⟩ : ByteArray).size = (unl A ++ r).length := by rw [Lib.size_eq, ← hts]
              refine ⟨?_, next_text hn _ (fun _ h0 => ?_), by rw [p1']; exact b4, by omega, ?_⟩
              · rw [drop_line hx, y4, drop_line hx2, p2, hhead _ p1', line_bytes]
                simp
              · rw [hsz] at h0
                simp at h0
                exact hr h0.2
              · rw [hsz, hlen]
                rw [hu] at hul
                simp at hul ⊢
                omega
          · have hd' : dashAt X (takeF X m (n + 1) ⟨#[]⟩).2.1 = false := by simpa using hd
            refine .inr ⟨_, _, editF_full hl0 hh hn ht hd', ?_⟩
            rw [y2]
            obtain ⟨p1, p2⟩ := edText_whole ⟨e0.fr, e0.tt, (takeF X m (n + 1) ⟨#[]⟩).1⟩ Y hY10 y3'
            have p1' : (linesOf (takeF X m (n + 1) ⟨#[]⟩).1).length = m := p1.trans y1
            have hsz : (takeF X m (n + 1) ⟨#[]⟩).1.size = (unl Y).length := by rw [Lib.size_eq, y3']
            refine ⟨?_, next_text hn _ (fun h0 h1 => ?_), by rw [p1']; exact b4, by omega, ?_⟩
            · rw [drop_line hx, y4, p2, hhead _ p1']
              simp
            · rw [hsz] at h1
              cases Y with
              | nil => exact h0 y1.symm
              | cons r Y => rw [unl_cons] at h1; simp at h1
            · rw [hsz, hlen]
              omega
        · have ht' : (takeF X m (n + 1) ⟨#[]⟩).2.2 = false := by simpa using ht
          exact .inl ⟨_, _, editF_take hl hh hn ht', by omega, by simp⟩
      · exact .inl ⟨_, _, editF_next hl hh (by simpa using hn), Nat.le_refl _, by simp⟩
  · exact .inl ⟨_, _, editF_none (by simpa using hl), Nat.le_refl _, by simp⟩

theorem editsF_said {X : List ByteArray} (hX : Lined X) : ∀ (f n : Nat) (last : Int), n ≤ (editsF X f n last).2.1 ∧ ((editsF X f n last).2.2 = false → joinB (X.drop n) = edsText (editsF X f n last).1 ++ joinB (X.drop (editsF X f n last).2.1) ∧ edsOk last (editsF X f n last).1 = true)
  | 0, n, last => ⟨Nat.le_refl _, fun _ => ⟨rfl, rfl⟩⟩
  | f + 1, n, last => by
    rcases editF_said (n := n) (last := last) hX with ⟨n', b, he, hle, hb⟩ | ⟨e, n', he, h1, h2, h3, h4, _⟩
    · simp only [editsF, he]
      refine ⟨hle, fun h => ?_⟩
      rw [hb h]
      exact ⟨rfl, rfl⟩
    · obtain ⟨i1, i2⟩ := editsF_said hX f n' e.tt
      simp only [editsF, he]
      refine ⟨by omega, fun h => ?_⟩
      obtain ⟨j1, j2⟩ := i2 h
      refine ⟨?_, ?_⟩
      · rw [h1, j1]
        simp [edsText]
      · simp only [edsOk, Bool.and_eq_true, decide_eq_true_eq]
        exact ⟨⟨h2, h3⟩, j2⟩

theorem parseGo_said {X : List ByteArray} (hX : Lined X) : ∀ (f n : Nat) (out : List Chg), X.length < n + f → (parseGo X f n out).2.2 = 0 →
    ∃ C, parseGo X f n out = (out ++ C, 0, 0) ∧ joinB (X.drop n) = textL C ∧ validGo ((out.getLast?).map (·.name)) C = true
  | 0, n, out, hf, _ => by
    refine ⟨[], by simp [parseGo], ?_, rfl⟩
    rw [List.drop_eq_nil_of_le (by omega)]
    rfl
  | f + 1, n, out, hf, h => by
    unfold parseGo at h ⊢
    by_cases hl : X.length ≤ n
    · rw [if_pos hl]
      refine ⟨[], by simp, ?_, rfl⟩
      rw [List.drop_eq_nil_of_le hl]
      rfl
    · rw [if_neg hl] at h ⊢
      by_cases hn : nameLine (nowF X n) out = true
      · rw [if_pos hn] at h ⊢
        by_cases hb : ((editsF X (X.length + 1) (n + 1) (-1)).2.2 || decide ((editsF X (X.length + 1) (n + 1) (-1)).1.length = 0)) = true
        · rw [if_pos hb] at h
          cases h
        · rw [if_neg hb] at h ⊢
          simp only [Bool.or_eq_true, decide_eq_true_eq, not_or, Bool.not_eq_true] at hb
          obtain ⟨e3, e12⟩ := editsF_said hX (X.length + 1) (n + 1) (-1)
          obtain ⟨e1, e2⟩ := e12 hb.1
          obtain ⟨C, c1, c2, c3⟩ := parseGo_said hX f _ _ (by omega) h
          unfold nameLine at hn
          simp only [Bool.and_eq_true] at hn
          obtain ⟨⟨⟨n1, n2⟩, n3⟩, n4⟩ := hn
          have hx := now_inv n1
          obtain ⟨q, hq⟩ : ∃ q, (nowF X n).1.data.toList = 61 :: 32 :: q := by
            unfold Lib.hasPrefix at n2
            obtain ⟨q, hq⟩ := List.isPrefixOf_iff_prefix.1 n2
            exact ⟨q, hq.symm⟩
          have hnm : (nameOf (nowF X n).1).data.toList = q := by
            show Lib.trimPrefix (nowF X n).1.data.toList [61, 32] = q
            rw [hq]
            simp [Lib.trimPrefix, Lib.hasPrefix]
          refine ⟨⟨nameOf (nowF X n).1, (editsF X (X.length + 1) (n + 1) (-1)).1⟩ :: C, ?_, ?_, ?_⟩
          · rw [c1]; simp
          · rw [drop_line hx, e1, c2, line_bytes]
            have : textL (⟨nameOf (nowF X n).1, (editsF X (X.length + 1) (n + 1) (-1)).1⟩ :: C) = (([61, 32] ++ (nameOf (nowF X n).1).data.toList ++ [10]) ++ edsText (editsF X (X.length + 1) (n + 1) (-1)).1) ++ textL C := by
              simp [textL, chgText]
            rw [this, hnm, hq]
            simp
          · simp only [validGo, headOk, Bool.and_eq_true, decide_eq_true_eq]
            refine ⟨⟨n3, hb.2, ?_⟩, e2, ?_⟩
            · cases ho : out.getLast? with
              | none => rfl
              | some c =>
                rw [ho] at n4
                exact n4
            · simpa using c3
      · rw [if_neg hn] at h
        cases h

/-- WHAT A TEXT SAYS HAS THAT TEXT. -/
theorem parse_said (s : ByteArray) (h : (parseF s).2.2 = 0) : ∃ C, parseF s = (C, 0, 0) ∧ textL C = s.data.toList ∧ validF C = true := by
  unfold parseF at h ⊢
  obtain ⟨C, h1, h2, h3⟩ := parseGo_said (lined_of s) _ 0 [] (by omega) h
  refine ⟨C, by simpa using h1, ?_, h3⟩
  rw [← h2, List.drop_zero, linesOf_join]

end Go.Proofs.YtbodemkmjemdjaaDoor
