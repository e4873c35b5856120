/-
  The reference's IsType: the last of the declarations of a name in the innermost block that has one.
-/
import Derived.Test.YtanblanoaahcfaaRef
import Derived.Test.YtanblanoaahcfaaLastW
namespace Go.Proofs.Ytanblanoaahcfaa
open Go.RowKit Go.ChangeMaps Go.MapKept Go.WideMaps

def stepT (s : ByteArray) (st : Int × Bool) (x : SaidT) : Int × Bool := if x.2.1 = s ∧ st.1 ≤ (x.1 : Int) then (x.1, x.2.2) else st
def foldT (s : ByteArray) (all : List SaidT) : Int × Bool := all.foldl (stepT s) (-1, false)

theorem foldT_take (s : ByteArray) (all : List SaidT) (k : Nat) (x : SaidT) (hx : all[k]? = some x) : foldT s (all.take (k + 1)) = stepT s (foldT s (all.take k)) x := by
  rw [List.take_add_one, hx]
  unfold foldT
  rw [List.foldl_append]
  rfl

set_option maxHeartbeats 1000000 in
theorem isTypeR_at {w : World} {rb m v all ρ} (h : RefAt w rb m v all ρ) (s : ByteArray) (hn : all.length < 1000000) :
    Calls Try.prog 19 #[.pointer (some ⟨rb, 0, none⟩), .string s] w fun e w' => e = .returned (.bool (foldT s all).2) ∧ w = w' := by
  have c1 := h.c1
  obtain ⟨a, c, rfl, _⟩ := ownsRow_slice h.row
  obtain ⟨n, hN⟩ : ∃ n, all.length = n := ⟨_, rfl⟩
  have hel := fun i x hx => h.el i x hx
  have H := Lib.hid h; clear h
  rw [hN] at c1 hel hn
  have HEL := Lib.hid hel; clear hel
  have HN := Lib.hid hN; clear hN
  go_enter Try.func19, Try.ntmps19
  go_wp2_with fail
  go_loopw [5, 6, 7] (fun b t i wr => ∃ k : Nat, k ≤ n ∧ b = .int .i64 (foldT s (all.take k)).1 ∧ t = .bool (foldT s (all.take k)).2 ∧ i = .int .i64 k ∧ wr = w) (fun _ _ i _ => n - (intOf i).toNat)
  case atStart => exact ⟨0, Nat.zero_le _, rfl, rfl, rfl, rfl⟩
  case round =>
    obtain ⟨k, hk, rfl, rfl, rfl, rfl⟩ := hrel
    by_cases hkn : k < n
    · obtain ⟨x, hx⟩ : ∃ x, all[k]? = some x := ⟨all[k]'(by have := HN.out; omega), List.getElem?_eq_getElem _⟩
      have hf := foldT_take s all k x hx
      obtain ⟨g, c', e, d0, d1, d2⟩ := HEL.out k x hx
      obtain ⟨rfl, _, rfl⟩ : a = some ⟨g, 0, none⟩ ∧ n = n ∧ c = c' := by simpa using e
      clear e hx
      obtain ⟨xb, xn, xt⟩ := x
      simp only at d0 d1 d2 hf
      generalize (foldT s (all.take k)) = st at hf ⊢
      obtain ⟨b, t⟩ := st
      simp only at hf ⊢
      by_cases e1 : xn = s
      · subst e1
        have g1 : (xn.toList == xn.toList) = true := by simp
        by_cases e2 : b ≤ (xb : Int)
        · have g2 : decide (b ≤ (xb : Int)) = true := by simpa using e2
          simp only [stepT, e2, and_self, if_true] at hf
          have HF := Lib.hid hf; clear hf
          clear e2
          go_wp2
          go_roundw
          case rel => exact ⟨k + 1, by omega, by rw [HF.out], by rw [HF.out], by go_num, trivial⟩
          case measure => simp [intOf]; omega
        · have g2 : decide (b ≤ (xb : Int)) = false := by simpa using e2
          simp only [stepT, e2, and_false, if_false] at hf
          have HF := Lib.hid hf; clear hf
          clear e2
          go_wp2
          go_roundw
          case rel => exact ⟨k + 1, by omega, by rw [HF.out], by rw [HF.out], by go_num, trivial⟩
          case measure => simp [intOf]; omega
      · have g1 : (xn.toList == s.toList) = false := by
          have : ¬ xn.toList = s.toList := fun h => e1 (toList_inj h)
          simpa using this
        simp only [stepT, e1, false_and, if_false] at hf
        have HF := Lib.hid hf; clear hf
        clear e1
        go_wp2
        go_roundw
        case rel => exact ⟨k + 1, by omega, by rw [HF.out], by rw [HF.out], by go_num, trivial⟩
        case measure => simp [intOf]; omega
    · obtain rfl : k = n := by omega
      have ht : all.take k = all := List.take_of_length_le (by have := HN.out; omega)
      rw [ht]
      go_wp2
      go_ret
      exact ⟨rfl, rfl⟩

theorem isTypeR {w : World} {rb m all ρ} (h : Rf w rb ρ m all) (s : ByteArray) (hn : all.length < 1000000) :
    Calls Try.prog 19 #[.pointer (some ⟨rb, 0, none⟩), .string s] w fun e w' => e = .returned (.bool (foldT s all).2) ∧ w = w' := by
  obtain ⟨v, h⟩ := h
  exact isTypeR_at h s hn

theorem isTypeRQ {w : World} {rb m all ρ} (h : Rf w rb ρ m all) (s : ByteArray) (hn : all.length < 1000000) (b : Bool) (hb : (foldT s all).2 = b) (n : Nat) :
    Calls Try.prog 19 #[.pointer (some ⟨rb, 0, none⟩), .string s] (w.drewN n) fun e w'' => e = .returned (.bool b) ∧ ∃ m, w'' = w.drewN m :=
  (isTypeR (h.drewN n) s hn).mono fun e w' ⟨h1, h2⟩ => ⟨by rw [h1, hb], n, h2.symm⟩

end Go.Proofs.Ytanblanoaahcfaa
