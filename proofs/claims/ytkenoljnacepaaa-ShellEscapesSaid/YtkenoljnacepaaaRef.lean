/-
  The reference's Escape: each byte 10 and 92 becomes two bytes.
-/
import Derived.Test.YtkenoljnacepaaaRows
import Derived.WalkKit
import Derived.WalkSpells
import Derived.Lib.Hide
namespace Go.Proofs.Ytkenoljnacepaaa
open Go.RowKit

def esc1 (c : UInt8) : List UInt8 := if c = 10 then [92, 110] else if c = 92 then [92, 92] else [c]
def escL (l : List UInt8) : List UInt8 := l.flatMap esc1
def bytesOf (l : List UInt8) : ByteArray := ⟨l.toArray⟩

theorem escL_snoc (l : List UInt8) (c : UInt8) : escL (l ++ [c]) = escL l ++ esc1 c := by simp [escL]
theorem escL_length (l : List UInt8) : (escL l).length ≤ 2 * l.length := by
  induction l with
  | nil => simp [escL]
  | cons c l ih =>
    have : (esc1 c).length ≤ 2 := by unfold esc1; split <;> (try split) <;> simp
    simp only [escL, List.flatMap_cons, List.length_append, List.length_cons] at ih ⊢
    omega

theorem push_one (s : ByteArray) (k : Nat) (hk : k < s.size) (L : List UInt8) : bytesOf L ++ s.extract k (k + 1) = bytesOf (L ++ [s[k]]) := by
  apply ByteArray.ext
  apply Array.ext'
  have h : (s.extract k (k + 1)).data.toList = [s[k]] := by
    have hk' : k < s.data.toList.length := by simpa using hk
    rw [ByteArray.data_extract, Array.toList_extract, List.extract_eq_take_drop, Nat.add_sub_cancel_left, List.drop_eq_getElem_cons hk']
    rfl
  rw [ByteArray.data_append, Array.toList_append, h]
  simp [bytesOf]

set_option maxHeartbeats 1000000 in
theorem ref_any (s : ByteArray) (w : World) (hs : s.size ≤ 2000) :
    Calls Try.prog 5 #[.string s] w fun e w' => e = .returned (.string (bytesOf (escL s.data.toList))) ∧ w = w' := by
  obtain ⟨n, hn⟩ : ∃ n, s.size = n := ⟨_, rfl⟩
  go_enter Try.func5, Try.ntmps5
  go_wp2_with fail
  go_loopw [3, 4] (fun o i wr => ∃ k : Nat, k ≤ n ∧ o = .string (bytesOf (escL (s.data.toList.take k))) ∧ i = .int .i64 k ∧ wr = w) (fun _ i _ => n - (intOf i).toNat)
  case atStart => exact ⟨0, Nat.zero_le _, rfl, rfl, rfl⟩
  case round =>
    obtain ⟨k, hk, rfl, rfl, rfl⟩ := hrel
    have hX : (bytesOf (escL (s.data.toList.take k))).size ≤ 4000 := by
      have h1 := escL_length (s.data.toList.take k)
      have h2 : (s.data.toList.take k).length ≤ k := List.length_take_le _ _
      show (escL (s.data.toList.take k)).toArray.size ≤ 4000
      rw [List.size_toArray]
      omega
    by_cases hkn : k < n
    · have hks : k < s.size := by omega
      have hst : escL (s.data.toList.take (k + 1)) = escL (s.data.toList.take k) ++ esc1 s[k] := by
        rw [List.take_add_one, List.getElem?_eq_getElem (by simpa using hks)]
        exact escL_snoc _ _
      obtain ⟨X, hXe⟩ : ∃ X, bytesOf (escL (s.data.toList.take k)) = X := ⟨_, rfl⟩
      rw [hXe] at hX ⊢
      have HX := Lib.hid hXe
      have HST := Lib.hid hst
      clear hXe hst
      have hx2 : X.size + 2 ≤ 9223372036854775807 := by omega
      have hx1 : X.size + 1 ≤ 9223372036854775807 := by omega
      by_cases h1 : s[k] = 10
      · have g1 : ((s[k].toNat : Int) == 10) = true := by rw [h1]; rfl
        go_wp2
        go_roundw
        case rel => exact ⟨k + 1, by omega, by rw [HST.out, h1, ← HX.out]; rfl, by go_num, trivial⟩
        case measure => simp [intOf]; omega
      · have g1 : ((s[k].toNat : Int) == 10) = false := by
          have : ¬ s[k].toNat = 10 := fun e => h1 (UInt8.toNat_inj.1 e)
          simp; omega
        by_cases h2 : s[k] = 92
        · have g2 : ((s[k].toNat : Int) == 92) = true := by rw [h2]; rfl
          go_wp2
          go_roundw
          case rel => exact ⟨k + 1, by omega, by rw [HST.out, h2, ← HX.out]; rfl, by go_num, trivial⟩
          case measure => simp [intOf]; omega
        · have g2 : ((s[k].toNat : Int) == 92) = false := by
            have : ¬ s[k].toNat = 92 := fun e => h2 (UInt8.toNat_inj.1 e)
            simp; omega
          go_wp2
          go_roundw
          case rel =>
            refine ⟨k + 1, by omega, ?_, by go_num, trivial⟩
            have he : esc1 s[k] = [s[k]] := by simp [esc1, h1, h2]
            rw [HST.out, he, ← HX.out, push_one s k hks]
          case measure => simp [intOf]; omega
    · obtain rfl : k = n := by omega
      have ht : s.data.toList.take k = s.data.toList := List.take_of_length_le (by simpa using Nat.le_of_eq hn)
      rw [ht]
      go_wp2
      go_ret
      exact ⟨rfl, rfl⟩
end Go.Proofs.Ytkenoljnacepaaa
