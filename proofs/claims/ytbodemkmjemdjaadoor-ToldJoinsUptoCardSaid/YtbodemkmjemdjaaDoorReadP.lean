/-
  The text of changes is read back as these changes.
-/
import Derived.Test.YtbodemkmjemdjaaDoorPathP
namespace Go.Proofs.YtbodemkmjemdjaaDoor
open Go.RowKit

/-- A line with its end. -/
def line (r : List UInt8) : ByteArray := ⟨(r ++ [10]).toArray⟩
theorem line_bytes (r : List UInt8) : (line r).data.toList = r ++ [10] := rfl
def unl (L : List (List UInt8)) : List UInt8 := L.flatMap (· ++ [10])
theorem unl_cons (r : List UInt8) (L : List (List UInt8)) : unl (r :: L) = (r ++ [10]) ++ unl L := by simp [unl]
theorem unl_append (A B : List (List UInt8)) : unl (A ++ B) = unl A ++ unl B := by simp [unl]
theorem joinB_lines (L : List (List UInt8)) : joinB (L.map line) = unl L := by
  induction L with
  | nil => rfl
  | cons r L ih =>
    rw [unl_cons, List.map_cons, show joinB (line r :: L.map line) = (line r).data.toList ++ joinB (L.map line) by simp [joinB], ih]
    rfl

theorem linesOf_unl (L : List (List UInt8)) (h : ∀ r ∈ L, 10 ∉ r) : linesOf ⟨(unl L).toArray⟩ = L.map line := by
  have := linesOf_lines (L.map line) [] (fun x hx => by
    obtain ⟨r, hr, rfl⟩ := List.mem_map.1 hx
    exact ⟨r, rfl, h r hr⟩)
  rw [joinB_lines, List.append_nil] at this
  rw [this]
  have e : linesOf ⟨([] : List UInt8).toArray⟩ = [] := rfl
  rw [e, List.append_nil]

def headL (e : Ed) : List UInt8 := [64, 32] ++ (Lib.itoa (e.fr + 1) ++ 32 :: (Lib.itoa (e.tt - e.fr) ++ 32 :: Lib.itoa (linesOf e.tx).length))
def tailL (t : List UInt8) : List (List UInt8) := if t = [] then [] else [43 :: t, [45]]
theorem headText_eq (e : Ed) : headText e = headL e ++ [10] := by simp [headText, headL]

theorem itoa_no10 (n : Int) (h : 0 ≤ n) : (10 : UInt8) ∉ Lib.itoa n := itoa_no n h 10 (by decide)
theorem headL_no (e : Ed) (h0 : 0 ≤ e.fr) (h1 : e.fr ≤ e.tt) : (10 : UInt8) ∉ headL e := by
  have a := itoa_no10 (e.fr + 1) (by omega)
  have b := itoa_no10 (e.tt - e.fr) (by omega)
  have c := itoa_no10 ((linesOf e.tx).length : Int) (by omega)
  simp [headL, a, b, c]

theorem hasSuffix_unl (R : List (List UInt8)) (h : R ≠ []) : Lib.hasSuffix (unl R) [10] = true := by
  obtain ⟨A, r, rfl⟩ : ∃ A r, R = A ++ [r] := ⟨R.dropLast, R.getLast h, (List.dropLast_concat_getLast h).symm⟩
  rw [unl_append, unl_cons]
  simp [unl, Lib.hasSuffix, ← List.append_assoc]
theorem hasSuffix_not (a t : List UInt8) (ht : t ≠ []) (h : 10 ∉ t) : Lib.hasSuffix (a ++ t) [10] = false := by
  obtain ⟨A, r, rfl⟩ : ∃ A r, t = A ++ [r] := ⟨t.dropLast, t.getLast ht, (List.dropLast_concat_getLast ht).symm⟩
  rw [← Bool.not_eq_true]
  intro hs
  have := List.isSuffixOf_iff_suffix.1 hs
  rw [← List.append_assoc] at this
  obtain ⟨u, hu⟩ := this
  have := List.append_inj_right' hu (by simp)
  simp at this
  exact h (by simp [this])

/-- What an edit's text is: its lines, R whole ones and t behind them. -/
structure Parts (e : Ed) (R : List (List UInt8)) (t : List UInt8) : Prop where
  r10 : ∀ r ∈ R, 10 ∉ r
  t10 : 10 ∉ t
  tx : e.tx.data.toList = unl R ++ t
  len : (linesOf e.tx).length = R.length + (if t = [] then 0 else 1)
  text : edText e = unl (headL e :: (R.map (43 :: ·) ++ tailL t))

theorem parts_of (e : Ed) : ∃ R t, Parts e R t := by
  obtain ⟨R, t, h1, h2, h3, h4, h5⟩ := ed_parts e
  refine ⟨R, t, h1, h2, h3, h4, ?_⟩
  have hp : putLines R = unl (R.map (43 :: ·)) := by simp [putLines, unl, List.flatMap_map]
  have h3' : e.tx.data.toList = unl R ++ t := h3
  have he : endText e = if t = [] then [] else [10, 45, 10] := by
    unfold endText
    by_cases ht : t = []
    · rw [if_pos ht]
      by_cases hR : R = []
      · rw [if_neg]
        rw [h4, hR, if_pos ht]
        simp
      · rw [if_neg]
        rw [h3', ht, List.append_nil, hasSuffix_unl R hR]
        simp
    · rw [if_neg ht, if_pos]
      rw [h3', hasSuffix_not _ t ht h2, h4, if_neg ht]
      exact ⟨by omega, rfl⟩
  unfold edText
  rw [h5, he, hp, unl_cons, unl_append, headText_eq]
  unfold tailL
  split <;> simp [unl]

theorem drop_at {α : Type} {X : List α} {n : Nat} {L : List α} (h : X.drop n = L) (i : Nat) : X[n + i]? = L[i]? := by
  rw [← h, List.getElem?_drop]

theorem editF_reads (X : List ByteArray) (n : Nat) (last : Int) (e : Ed) (R : List (List UInt8)) (t : List UInt8) (hp : Parts e R t) (rest : List (List UInt8))
    (hX : X.drop n = (headL e :: (R.map (43 :: ·) ++ (tailL t ++ rest))).map line) (hrest : rest.head? ≠ some [45])
    (hn : nextF e last = true) (hl : (linesOf e.tx).length ≤ 65536) :
    editF X n last = .gives e (n + (headL e :: (R.map (43 :: ·) ++ tailL t)).length) := by
  have hb := hn
  simp only [nextF, Bool.and_eq_true, decide_eq_true_eq] at hb
  obtain ⟨m, hm⟩ : ∃ m, (linesOf e.tx).length = m := ⟨_, rfl⟩
  have hlen := hp.len
  rw [hm] at hlen hl
  have h0 : X[n]? = some (line (headL e)) := by
    have := drop_at hX 0
    simpa using this
  have hnow : nowF X n = (⟨(headL e).toArray⟩, true) := now_line h0
  have hline : editLine (nowF X n) = true := by
    rw [hnow]
    simp [editLine, headL, Lib.hasPrefix]
  have hhead : headF ((nowF X n).1.extract 2 (nowF X n).1.size) = some (⟨e.fr, e.tt, ⟨#[]⟩⟩, m) := by
    rw [hnow]
    have hs : ((⟨(headL e).toArray⟩ : ByteArray).extract 2 (⟨(headL e).toArray⟩ : ByteArray).size).data.toList = Lib.itoa (e.fr + 1) ++ 32 :: (Lib.itoa (e.tt - e.fr) ++ 32 :: Lib.itoa (m : Int)) := by
      simp only [ByteArray.data_extract, Array.toList_extract, List.extract_eq_take_drop]
      have e1 : (⟨(headL e).toArray⟩ : ByteArray).size = (headL e).length := by show (headL e).toArray.size = _; simp
      have e2 : headL e = 64 :: 32 :: (Lib.itoa (e.fr + 1) ++ 32 :: (Lib.itoa (e.tt - e.fr) ++ 32 :: Lib.itoa (m : Int))) := by unfold headL; rw [hm]; rfl
      rw [e1, e2]
      simp only [List.length_cons, List.drop_succ_cons, List.drop_zero]
      exact List.take_of_length_le (by omega)
    have := head_reads (e.fr + 1) (e.tt - e.fr) m (by omega) (by omega) (by omega) (by omega) (by omega) (by omega) _ hs
    dsimp only
    rw [this]
    simp
    omega
  have hnext : nextF ⟨e.fr, e.tt, if m = 0 then ⟨#[]⟩ else ⟨#[43]⟩⟩ last = true := by
    have hz : e.tx.size ≠ 0 → m ≠ 0 := by
      intro h1 h2
      rw [h2] at hlen
      have hR : R = [] := List.eq_nil_of_length_eq_zero (by omega)
      have ht : t = [] := by
        by_cases ht : t = []
        · exact ht
        · rw [if_neg ht] at hlen; omega
      have := hp.tx
      rw [hR, ht] at this
      exact h1 (by rw [Lib.size_eq, this]; rfl)
    simp only [nextF, Bool.and_eq_true, decide_eq_true_eq, Bool.or_eq_true]
    refine ⟨⟨⟨⟨hb.1.1.1.1, hb.1.1.1.2⟩, hb.1.1.2⟩, hb.1.2⟩, ?_⟩
    have h5 := hb.2
    simp only [Bool.or_eq_true, decide_eq_true_eq] at h5
    rcases h5 with h5 | h5
    · exact .inl h5
    · right
      rw [if_neg (hz h5)]
      decide
  obtain ⟨Y, hY⟩ : ∃ Y, R ++ (if t = [] then [] else [t]) = Y := ⟨_, rfl⟩
  have hYl : Y.length = m := by rw [← hY, List.length_append, hlen]; split <;> simp
  have hYX : ∀ i r, Y[i]? = some r → X[n + 1 + i]? = some (line (43 :: r)) := by
    intro i r hi
    have h1 := drop_at hX (1 + i)
    rw [show n + 1 + i = n + (1 + i) by omega, h1, show 1 + i = i + 1 by omega, List.map_cons, List.getElem?_cons_succ, List.getElem?_map]
    have e2 : R.map (43 :: ·) ++ (tailL t ++ rest) = Y.map (43 :: ·) ++ ((if t = [] then [] else [[45]]) ++ rest) := by
      rw [← hY]
      unfold tailL
      split <;> simp
    rw [e2, List.getElem?_append_left (by simp; exact (List.getElem?_eq_some_iff.1 hi).1), List.getElem?_map, hi]
    rfl
  have htake := take_lines X Y (n + 1) ⟨#[]⟩ hYX
  rw [hYl] at htake
  have htx : Y.flatMap (fun r => r ++ [10]) = e.tx.data.toList ++ (if t = [] then [] else [10]) := by
    rw [hp.tx, ← hY]
    by_cases ht : t = []
    · simp [ht, unl]
    · simp [ht, unl]
  have hafter : ∀ i, X[n + 1 + m + i]? = (((if t = [] then [] else [[45]]) ++ rest).map line)[i]? := by
    intro i
    have h1 := drop_at hX (1 + m + i)
    have e2 : R.map (43 :: ·) ++ (tailL t ++ rest) = Y.map (43 :: ·) ++ ((if t = [] then [] else [[45]]) ++ rest) := by
      rw [← hY]
      unfold tailL
      split <;> simp
    rw [show n + 1 + m + i = n + (1 + m + i) by omega, h1, show 1 + m + i = (m + i) + 1 by omega, List.map_cons, List.getElem?_cons_succ, e2, List.map_append, List.getElem?_append_right (by simp [hYl])]
    simp [hYl]
  unfold editF
  rw [if_pos hline, hhead]
  dsimp only
  rw [if_pos hnext, htake]
  dsimp only
  rw [if_pos rfl]
  by_cases ht : t = []
  · have hno : ((nowF X (n + 1 + m)).2 && (nowF X (n + 1 + m)).1.toList == [45]) = false := by
      have h1 := hafter 0
      rw [if_pos ht, List.nil_append, Nat.add_zero] at h1
      cases hr : rest with
      | nil =>
        rw [hr] at h1
        have : nowF X (n + 1 + m) = (⟨#[]⟩, false) := by unfold nowF; rw [h1]; rfl
        rw [this]; rfl
      | cons r rs =>
        rw [hr] at h1 hrest
        have : nowF X (n + 1 + m) = (⟨r.toArray⟩, true) := now_line h1
        rw [this]
        simp only [Bool.true_and, ByteArray.toList_eq]
        have : r ≠ [45] := fun h => hrest (by rw [h]; rfl)
        simpa using this
    rw [hno, if_neg (by simp)]
    have e3 : (⟨((⟨#[]⟩ : ByteArray).data.toList ++ Y.flatMap fun r => r ++ [10]).toArray⟩ : ByteArray) = e.tx := by
      apply bytes_eq
      rw [htx, if_pos ht]
      simp
    rw [e3]
    congr 1
    unfold tailL
    rw [if_pos ht] at hlen ⊢
    simp
    omega
  · have hyes : ((nowF X (n + 1 + m)).2 && (nowF X (n + 1 + m)).1.toList == [45]) = true := by
      have h1 := hafter 0
      rw [if_neg ht, Nat.add_zero] at h1
      have : nowF X (n + 1 + m) = (⟨([45] : List UInt8).toArray⟩, true) := now_line h1
      rw [this]
      simp [ByteArray.toList_eq]
    rw [hyes, if_pos rfl]
    have hm0 : m ≠ 0 := by rw [if_neg ht] at hlen; omega
    have hlast : (X[n + 1 + m - 1]?.getD ⟨#[]⟩) = line (43 :: t) := by
      have h1 := hYX R.length t (by rw [← hY, if_neg ht]; simp)
      rw [if_neg ht] at hlen
      rw [show n + 1 + m - 1 = n + 1 + R.length by omega, h1]
      rfl
    rw [hlast, if_neg]
    · have e3 : (⟨(Lib.trimSuffix ((⟨#[]⟩ : ByteArray).data.toList ++ Y.flatMap fun r => r ++ [10]) [10]).toArray⟩ : ByteArray) = e.tx := by
        apply bytes_eq
        rw [htx, if_neg ht]
        show Lib.trimSuffix ([] ++ (e.tx.data.toList ++ [10])) [10] = _
        rw [List.nil_append, trim_line]
      have e4 : (⟨(Lib.trimSuffix ((⟨((⟨#[]⟩ : ByteArray).data.toList ++ Y.flatMap fun r => r ++ [10]).toArray⟩ : ByteArray)).data.toList [10]).toArray⟩ : ByteArray) = e.tx := e3
      rw [e4]
      congr 1
      unfold tailL
      rw [if_neg ht] at hlen ⊢
      simp
      omega
    · simp only [ByteArray.toList_eq, Bool.or_eq_true, decide_eq_true_eq, hm0, false_or]
      rw [line_bytes]
      intro h
      have h2 := beq_iff_eq.1 h
      have : t ++ [10] = [10] := by simpa using h2
      have h3 := congrArg List.length this
      simp at h3
      exact ht h3

/-- The lines of edits. -/
theorem eds_lines : ∀ (E : List Ed) (last : Int), edsOk last E = true → ∃ L : List (List UInt8), edsText E = unl L ∧ (∀ r ∈ L, 10 ∉ r) ∧ E.length ≤ L.length ∧ (E ≠ [] → ∃ r L', L = (64 :: r) :: L') ∧
    ∀ (X : List ByteArray) (n f : Nat) (rest : List (List UInt8)), E.length < f → X.drop n = (L ++ rest).map line → (∀ r, rest.head? = some r → r ≠ [45] ∧ r.head? ≠ some 64) → editsF X f n last = (E, n + L.length, false)
  | [], last, _ => by
    refine ⟨[], rfl, (fun r hr => by cases hr), Nat.le_refl _, fun h => (h rfl).elim, fun X n f rest hf hX hr => ?_⟩
    obtain ⟨g, rfl⟩ : ∃ g, f = g + 1 := ⟨f - 1, by simp at hf; omega⟩
    have hh : editF X n last = .halts n false := by
      have h0 := drop_at hX 0
      rw [List.nil_append, Nat.add_zero] at h0
      have : editLine (nowF X n) = false := by
        cases rest with
        | nil =>
          have : nowF X n = (⟨#[]⟩, false) := by unfold nowF; rw [h0]; rfl
          rw [this]; rfl
        | cons r rs =>
          have : nowF X n = (⟨r.toArray⟩, true) := now_line h0
          rw [this]
          have h1 := (hr r rfl).2
          cases r with
          | nil => rfl
          | cons b r =>
            have hb : b ≠ 64 := fun e => h1 (by rw [e]; rfl)
            have hb2 : ((64 : UInt8) == b) = false := by simpa using Ne.symm hb
            simp [editLine, Lib.hasPrefix, List.isPrefixOf, hb2]
      unfold editF
      rw [if_neg (by rw [this]; simp)]
    simp only [editsF, hh]
    rfl
  | e :: E, last, h => by
    simp only [edsOk, Bool.and_eq_true, decide_eq_true_eq] at h
    obtain ⟨⟨h1, h2⟩, h3⟩ := h
    obtain ⟨R, t, hp⟩ := parts_of e
    obtain ⟨L, e1, e2, e3, e4, e5⟩ := eds_lines E e.tt h3
    have hb := h1
    simp only [nextF, Bool.and_eq_true, decide_eq_true_eq] at hb
    have hno : ∀ r ∈ headL e :: (R.map (43 :: ·) ++ tailL t), 10 ∉ r := by
      intro r hr
      rcases List.mem_cons.1 hr with rfl | hr
      · exact headL_no e hb.1.1.1.2 hb.1.1.2
      · rcases List.mem_append.1 hr with hr | hr
        · obtain ⟨q, hq, rfl⟩ := List.mem_map.1 hr
          have := hp.r10 q hq
          simp [this]
        · unfold tailL at hr
          split at hr
          · cases hr
          · have := hp.t10
            rcases List.mem_cons.1 hr with rfl | hr
            · simp [this]
            · obtain rfl : r = [45] := by simpa using hr
              decide
    refine ⟨(headL e :: (R.map (43 :: ·) ++ tailL t)) ++ L, ?_, ?_, ?_, fun _ => ⟨_, _, by unfold headL; rfl⟩, ?_⟩
    · rw [unl_append, ← e1, ← hp.text]; rfl
    · intro r hr
      rcases List.mem_append.1 hr with hr | hr
      · exact hno r hr
      · exact e2 r hr
    · simp; omega
    · intro X n f rest hf hX hr
      obtain ⟨g, rfl⟩ : ∃ g, f = g + 1 := ⟨f - 1, by simp at hf; omega⟩
      have hg : editF X n last = .gives e (n + (headL e :: (R.map (43 :: ·) ++ tailL t)).length) := by
        refine editF_reads X n last e R t hp (L ++ rest) (by rw [hX]; simp) ?_ h1 h2
        by_cases hE : E = []
        · subst hE
          have hL : edsText ([] : List Ed) = [] := rfl
          rw [hL] at e1
          have : L = [] := by
            cases L with
            | nil => rfl
            | cons r L => rw [unl_cons] at e1; simp at e1
          rw [this, List.nil_append]
          cases hq : rest.head? with
          | none => simp
          | some r => have := (hr r hq).1; simpa using this
        · obtain ⟨r, L', hL⟩ := e4 hE
          rw [hL]
          simp
      have hd : X.drop (n + (headL e :: (R.map (43 :: ·) ++ tailL t)).length) = (L ++ rest).map line := by
        rw [← List.drop_drop, hX, List.append_assoc, List.map_append, List.drop_append_of_le_length (by simp)]
        simp
      have := e5 X _ g rest (by simp at hf; omega) hd hr
      simp only [editsF, hg, this]
      simp only [Prod.mk.injEq, and_true, true_and]
      rw [List.length_append]
      omega

/-- The lines of changes. -/
theorem chg_lines : ∀ (C : List Chg) (p : Option ByteArray), validGo p C = true → ∃ L : List (List UInt8), textL C = unl L ∧ (∀ r ∈ L, 10 ∉ r) ∧ C.length ≤ L.length ∧ (∀ r, L.head? = some r → r ≠ [45] ∧ r.head? ≠ some 64) ∧
    ∀ (X : List ByteArray) (n f : Nat) (out : List Chg), C.length < f → X.drop n = L.map line → (out.getLast?).map (·.name) = p → parseGo X f n out = (out ++ C, 0, 0)
  | [], p, _ => by
    refine ⟨[], rfl, (fun r hr => by cases hr), Nat.le_refl _, (fun r hr => by cases hr), fun X n f out hf hX ho => ?_⟩
    obtain ⟨g, rfl⟩ : ∃ g, f = g + 1 := ⟨f - 1, by simp at hf; omega⟩
    have : X.length ≤ n := List.drop_eq_nil_iff.1 hX
    simp only [parseGo]
    rw [if_pos this, List.append_nil]
  | c :: C, p, h => by
    simp only [validGo, Bool.and_eq_true] at h
    obtain ⟨h1, h2, h3⟩ := h
    obtain ⟨L1, a1, a2, a3, a4, a5⟩ := eds_lines c.eds (-1) h2
    obtain ⟨L2, b1, b2, b3, b4, b5⟩ := chg_lines C (some c.name) h3
    simp only [headOk, Bool.and_eq_true, decide_eq_true_eq] at h1
    obtain ⟨hpath, hne, hprev⟩ := h1
    have hn10 := path_no10 hpath
    refine ⟨([61, 32] ++ c.name.data.toList) :: (L1 ++ L2), ?_, ?_, by simp; omega, ?_, ?_⟩
    · rw [unl_cons, unl_append, ← a1, ← b1]
      simp [textL, chgText]
    · intro r hr
      rcases List.mem_cons.1 hr with rfl | hr
      · simp [hn10]
      · rcases List.mem_append.1 hr with hr | hr
        · exact a2 r hr
        · exact b2 r hr
    · intro r hr
      obtain rfl : [61, 32] ++ c.name.data.toList = r := by simpa using hr
      simp
    · intro X n f out hf hX ho
      obtain ⟨g, rfl⟩ : ∃ g, f = g + 1 := ⟨f - 1, by simp at hf; omega⟩
      have h0 : X[n]? = some (line ([61, 32] ++ c.name.data.toList)) := by
        have := drop_at hX 0
        simpa using this
      have hlt : ¬ X.length ≤ n := by
        have := (List.getElem?_eq_some_iff.1 h0).1
        omega
      have hnow : nowF X n = (⟨([61, 32] ++ c.name.data.toList).toArray⟩, true) := now_line h0
      have hname : nameOf (nowF X n).1 = c.name := by
        rw [hnow]
        apply bytes_eq
        simp [nameOf, Lib.trimPrefix, Lib.hasPrefix]
      have hline : nameLine (nowF X n) out = true := by
        unfold nameLine
        rw [hname, hnow, hpath]
        simp only [Bool.true_and, Bool.and_true, Bool.and_eq_true]
        refine ⟨by simp [Lib.hasPrefix], ?_⟩
        cases ho2 : out.getLast? with
        | none => rfl
        | some q =>
          rw [ho2] at ho
          subst ho
          exact hprev
      have hd1 : X.drop (n + 1) = (L1 ++ L2).map line := by
        rw [← List.drop_drop, hX]
        rfl
      have hXl : L1.length + L2.length + n + 1 = X.length := by
        have := congrArg List.length hd1
        simp at this
        omega
      have hel := a5 X (n + 1) (X.length + 1) L2 (by omega) hd1 b4
      have hd2 : X.drop (n + 1 + L1.length) = L2.map line := by
        rw [← List.drop_drop, hd1, List.map_append, List.drop_append_of_le_length (by simp)]
        simp
      simp only [parseGo]
      rw [if_neg hlt, if_pos hline, hel]
      dsimp only
      rw [if_neg (by simp; exact fun h => hne (by rw [h]; rfl)), hname]
      have := b5 X _ g (out ++ [⟨c.name, c.eds⟩]) (by simp at hf; omega) hd2 (by simp)
      rw [this]
      simp

/-- THE TEXT OF CHANGES SAYS THEM. -/
theorem parse_text (C : List Chg) (h : validF C = true) : parseF ⟨(textL C).toArray⟩ = (C, 0, 0) := by
  obtain ⟨L, h1, h2, h3, _, h5⟩ := chg_lines C none h
  unfold parseF
  rw [h1, linesOf_unl L h2]
  have := h5 (L.map line) 0 ((L.map line).length + 1) [] (by simp; omega) (by simp) rfl
  simpa using this

end Go.Proofs.YtbodemkmjemdjaaDoor
