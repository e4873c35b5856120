/-
  Three words with blanks between them are cut into these words.
-/
import Derived.Test.YtbodemkmjemdjaaDoorDigits
import Derived.Lib.IndexBytes
import Derived.Lib.SplitLaws
namespace Go.Proofs.YtbodemkmjemdjaaDoor
open Go.RowKit

theorem indexByte_at : ∀ (a r : List UInt8) (c : UInt8), c ∉ a → Lib.indexByte (a ++ c :: r) c = a.length
  | [], r, c, _ => by simp [Lib.indexByte]
  | b :: a, r, c, h => by
    have h1 : ¬ (b == c) = true := by
      intro e
      exact h (by simp [beq_iff_eq.1 e])
    have h2 := indexByte_at a r c (fun h' => h (by simp [h']))
    simp only [List.cons_append, Lib.indexByte]
    rw [if_neg h1, h2, if_neg (by simp)]
    simp

theorem splitK_step (a r : List UInt8) (c : UInt8) (k : Nat) (h : c ∉ a) : Lib.splitK [c] 0 (k + 1) (a ++ c :: r) = a :: Lib.splitK [c] 0 k r := by
  have hi : Lib.index (a ++ c :: r) [c] = a.length := by rw [Lib.index_one, indexByte_at a r c h]
  have e1 : Lib.splitK [c] 0 (k + 1) (a ++ c :: r) = if Lib.index (a ++ c :: r) [c] == -1 then [a ++ c :: r] else (a ++ c :: r).take ((Lib.index (a ++ c :: r) [c]).toNat + 0) :: Lib.splitK [c] 0 k ((a ++ c :: r).drop ((Lib.index (a ++ c :: r) [c]).toNat + [c].length)) := rfl
  rw [e1, hi, if_neg (by simp)]
  have e2 : (a ++ c :: r).take ((a.length : Int).toNat + 0) = a := by simp
  have e3 : (a ++ c :: r).drop ((a.length : Int).toNat + [c].length) = r := by
    rw [show (a.length : Int).toNat + [c].length = a.length + 1 by simp, show a ++ c :: r = (a ++ [c]) ++ r by simp, List.drop_append_of_le_length (by simp)]
    simp
  rw [e2, e3]

theorem words_three (a b c : List UInt8) (ha : 32 ∉ a) (hb : 32 ∉ b) (hc : 32 ∉ c) (s : ByteArray) (hs : s.data.toList = a ++ 32 :: (b ++ 32 :: c)) : (wordsOf s).map (·.data.toList) = [a, b, c] := by
  have hcount : Lib.countB s blank = 2 := by
    have : Lib.countB s blank = Lib.count s.data.toList [32] := rfl
    rw [this, Lib.count_one, hs]
    simp [List.count_append, List.count_eq_zero_of_not_mem ha, List.count_eq_zero_of_not_mem hb, List.count_eq_zero_of_not_mem hc]
  unfold wordsOf
  rw [Lib.splitB_data, hcount, hs, show blank.data.toList = [32] from rfl, splitK_step a _ 32 1 ha, splitK_step b _ 32 0 hb]
  rfl

theorem dec_plain (u : Nat) : ∀ c ∈ Lib.decDigits u, 48 ≤ c.toNat ∧ c.toNat ≤ 57 := by
  induction u using Nat.strongRecOn with
  | ind u ih =>
    have hd : ∀ d : Nat, d < 10 → (UInt8.ofNat (48 + d)).toNat = 48 + d := fun d hd => by
      rw [UInt8.toNat_ofNat']
      omega
    intro c hc
    unfold Lib.decDigits at hc
    split at hc
    · rename_i h
      simp only [List.mem_singleton] at hc
      subst hc
      rw [hd u h]; omega
    · simp only [List.mem_append, List.mem_singleton] at hc
      rcases hc with hc | rfl
      · exact ih (u / 10) (by omega) c hc
      · rw [hd (u % 10) (by omega)]; omega
theorem itoa_plain (n : Int) (h : 0 ≤ n) : ∀ c ∈ Lib.itoa n, 48 ≤ c.toNat ∧ c.toNat ≤ 57 := by
  unfold Lib.itoa
  rw [if_neg (by omega)]
  exact dec_plain _
theorem itoa_no (n : Int) (h : 0 ≤ n) (c : UInt8) (hc : c.toNat < 48) : c ∉ Lib.itoa n := fun hm => by
  have := itoa_plain n h c hm
  omega

/-- A line that says where an edit stands is read so. -/
theorem head_reads (f d n : Int) (hf : 1 ≤ f) (hf2 : f ≤ 65537) (hd : 0 ≤ d) (hd2 : d ≤ 65537) (hn : 0 ≤ n) (hn2 : n ≤ 65536) (s : ByteArray) (hs : s.data.toList = Lib.itoa f ++ 32 :: (Lib.itoa d ++ 32 :: Lib.itoa n)) :
    headF s = some (⟨f - 1, f - 1 + d, ⟨#[]⟩⟩, n.toNat) := by
  have h := words_three _ _ _ (itoa_no f (by omega) 32 (by decide)) (itoa_no d hd 32 (by decide)) (itoa_no n hn 32 (by decide)) s hs
  have key : ∀ (x : ByteArray) (l : List UInt8), x.data.toList = l → x = ⟨l.toArray⟩ := fun x l e => by
    apply ByteArray.ext
    rw [← e]
  unfold headF
  obtain ⟨a, b, c, hw⟩ : ∃ a b c, wordsOf s = [a, b, c] := by
    generalize wordsOf s = L at h
    cases L with
    | nil => simp at h
    | cons a L =>
      cases L with
      | nil => simp at h
      | cons b L =>
        cases L with
        | nil => simp at h
        | cons c L =>
          cases L with
          | nil => exact ⟨a, b, c, rfl⟩
          | cons d L => simp at h
  · rw [hw] at h ⊢
    simp only [List.map_cons, List.map_nil, List.cons.injEq, and_true] at h
    obtain ⟨ha, hb, hc⟩ := h
    rw [key a _ ha, key b _ hb, key c _ hc]
    simp only
    rw [numF_itoa f 1 (by omega) hf hf2, numF_itoa d 0 hd hd hd2, numF_itoa n 0 hn hn (by omega)]
    simp only
    rw [if_pos hn2]

end Go.Proofs.YtbodemkmjemdjaaDoor
