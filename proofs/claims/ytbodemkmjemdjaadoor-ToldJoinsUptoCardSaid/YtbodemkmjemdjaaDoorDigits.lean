/-
  A number's digits are read as that number.
-/
import Derived.Test.YtbodemkmjemdjaaDoorParseF
namespace Go.Proofs.YtbodemkmjemdjaaDoor
open Go.RowKit

theorem parse_append : ∀ (A B : List UInt8) (acc : Nat), Lib.parseUint10 acc (A ++ B) = match Lib.parseUint10 acc A with
    | .ok v => Lib.parseUint10 v B
    | e => e
  | [], B, acc => rfl
  | c :: A, B, acc => by
    simp only [List.cons_append, Lib.parseUint10]
    split
    · split
      · rfl
      · split
        · rfl
        · exact parse_append A B _
    · rfl

theorem parse_dec (u : Nat) : u < 1000000000000000000 → Lib.parseUint10 0 (Lib.decDigits u) = .ok u := by
  induction u using Nat.strongRecOn with
  | ind u ih =>
    intro hu
    have hd : ∀ d : Nat, d < 10 → (UInt8.ofNat (48 + d)).toNat = 48 + d := fun d hd => by
      rw [UInt8.toNat_ofNat']
      omega
    unfold Lib.decDigits
    split
    · rename_i h
      simp only [Lib.parseUint10, hd u h]
      rw [if_pos (by omega), if_neg (by omega), if_neg (by omega)]
      congr 1
      omega
    · rename_i h
      rw [parse_append, ih (u / 10) (by omega) (by omega)]
      simp only [Lib.parseUint10, hd (u % 10) (by omega)]
      rw [if_pos (by omega), if_neg (by omega), if_neg (by omega)]
      congr 1
      omega

theorem dec_head (u : Nat) : ∃ c r, Lib.decDigits u = c :: r ∧ 48 ≤ c.toNat ∧ c.toNat ≤ 57 := by
  induction u using Nat.strongRecOn with
  | ind u ih =>
    have hd : ∀ d : Nat, d < 10 → (UInt8.ofNat (48 + d)).toNat = 48 + d := fun d hd => by
      rw [UInt8.toNat_ofNat']
      omega
    unfold Lib.decDigits
    split
    · rename_i h
      exact ⟨_, _, rfl, by rw [hd u h]; omega, by rw [hd u h]; omega⟩
    · obtain ⟨c, r, h1, h2, h3⟩ := ih (u / 10) (by omega)
      exact ⟨c, r ++ _, by rw [h1]; rfl, h2, h3⟩

theorem atoi_itoa (n : Int) (h0 : 0 ≤ n) (h1 : n ≤ 65537) : Lib.atoiAll (Lib.itoa n) = .ok n := by
  have e : Lib.itoa n = Lib.decDigits n.toNat := by unfold Lib.itoa; rw [if_neg (by omega)]
  rw [e]
  obtain ⟨c, r, hc, h2, h3⟩ := dec_head n.toNat
  have hp := parse_dec n.toNat (by omega)
  rw [hc] at hp ⊢
  unfold Lib.atoiAll
  have hn : ¬ (c.toNat = 43 ∨ c.toNat = 45) := by omega
  simp only [if_neg hn]
  unfold Lib.parseMag
  rw [if_neg (by simp), hp]
  simp only
  rw [if_neg (by omega), if_neg (by omega), if_neg (by omega)]
  congr 1
  omega

theorem numF_itoa (n least : Int) (h0 : 0 ≤ n) (hl : least ≤ n) (h1 : n ≤ 65537) : numF ⟨(Lib.itoa n).toArray⟩ least = some n := by
  unfold numF
  have e : (⟨(Lib.itoa n).toArray⟩ : ByteArray).data.toList = Lib.itoa n := rfl
  rw [e, atoi_itoa n h0 h1]
  simp only
  rw [if_pos]
  unfold numOk
  rw [e]
  simp [hl, h1]

theorem numF_spells {s : ByteArray} {least v : Int} (h : numF s least = some v) : Lib.itoa v = s.data.toList := by
  unfold numF at h
  split at h
  · split at h
    · rename_i h2
      simp only [Option.some.injEq] at h
      subst h
      unfold numOk at h2
      simp only [Bool.and_eq_true, decide_eq_true_eq] at h2
      exact h2.2
    · cases h
  · cases h

end Go.Proofs.YtbodemkmjemdjaaDoor
