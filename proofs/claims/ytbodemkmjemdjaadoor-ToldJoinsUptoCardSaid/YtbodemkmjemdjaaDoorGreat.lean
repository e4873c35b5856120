/-
  What great answers: whether changes are more than 2,000 bytes, as it counts.
-/
import Derived.Test.YtbodemkmjemdjaaDoorData
namespace Go.Proofs.YtbodemkmjemdjaaDoor
open Go.RowKit

def sumE (E : List Ed) : Nat := (E.map fun e => 10 + e.tx.size).sum
def sumC (C : List Chg) : Nat := (C.map fun x => 20 + x.name.size + sumE x.eds).sum
def greatF (C : List Chg) : Bool := decide (2000 < sumC C)

theorem sumE_take {E : List Ed} {k : Nat} {e : Ed} (h : E[k]? = some e) : sumE (E.take (k + 1)) = sumE (E.take k) + (10 + e.tx.size) := by
  rw [List.take_add_one, h]
  simp [sumE]
theorem sumC_take {C : List Chg} {k : Nat} {x : Chg} (h : C[k]? = some x) : sumC (C.take (k + 1)) = sumC (C.take k) + (20 + x.name.size + sumE x.eds) := by
  rw [List.take_add_one, h]
  simp [sumC]
theorem sumE_le (E : List Ed) (h : ∀ e ∈ E, e.fits) : sumE E ≤ E.length * 2000010 := by
  induction E with
  | nil => simp [sumE]
  | cons e E ih =>
    have h1 := (h e (by simp)).2.2.2.2
    have h2 := ih (fun x hx => h x (by simp [hx]))
    simp only [sumE, List.map_cons, List.sum_cons, List.length_cons] at h2 ⊢
    omega
theorem sumC_le (C : List Chg) (h : ∀ x ∈ C, x.name.size ≤ 2000000 ∧ sumE x.eds ≤ 4000020000000) : sumC C ≤ C.length * 4000022000020 := by
  induction C with
  | nil => simp [sumC]
  | cons e E ih =>
    have h1 := h e (by simp)
    have h2 := ih (fun x hx => h x (by simp [hx]))
    simp only [sumC, List.map_cons, List.sum_cons, List.length_cons] at h2 ⊢
    omega
theorem EdsAt.sum {w : World} {v : Value} {E : List Ed} (h : EdsAt w v E) : sumE E ≤ 4000020000000 := by
  obtain ⟨a, c, _, _, h1, h2, _⟩ := h
  have := sumE_le E h2
  omega
theorem EdsAt.tail {w : World} {v : Value} {E : List Ed} (h : EdsAt w v E) (k : Nat) : sumE (E.take k) ≤ 4000020000000 := by
  obtain ⟨a, c, _, _, h1, h2, _⟩ := h
  have := sumE_le (E.take k) (fun e he => h2 e (List.mem_of_mem_take he))
  have : (E.take k).length ≤ E.length := List.length_take_le' _ _
  omega
theorem ChgsAt.sum {w : World} {v : Value} {C : List Chg} (h : ChgsAt w v C) (k : Nat) : sumC (C.take k) ≤ 8000044000040000000 := by
  obtain ⟨a, c, _, _, _, h1, h2, h3⟩ := h
  rcases h3 with rfl | ⟨b, o, _, _, h3⟩
  · simp [sumC]
  · have := sumC_le (C.take k) (fun x hx => ⟨h2 x (List.mem_of_mem_take hx), by
      obtain ⟨i, hi⟩ := List.getElem?_of_mem (List.mem_of_mem_take hx)
      obtain ⟨_, ev, _, hev⟩ := h3 i x hi
      exact hev.sum⟩)
    have : (C.take k).length ≤ C.length := List.length_take_le' _ _
    omega

set_option maxHeartbeats 4000000 in
theorem great_any (v : Value) (C : List Chg) (w : World) (hC : ChgsAt w v C) :
    Calls Tryd.prog 7 #[v] w fun r w' => r = .returned (.bool (greatF C)) ∧ w' = w := by
  have hC0 := hC
  obtain ⟨a, c, rfl, hc, hcm, hC2, hCn, hC⟩ := hC
  obtain ⟨m, hm⟩ : ∃ m, C.length = m := ⟨_, rfl⟩
  rw [hm] at hc hC2 ⊢
  have HC := Lib.hid hC; clear hC
  have HC0 := Lib.hid hC0; clear hC0
  have HM := Lib.hid hm; clear hm
  have HCN := Lib.hid hCn; clear hCn
  go_enter Tryd.func7, Tryd.ntmps7
  go_wp2
  go_loopw [3, 4] (fun nv i wr => ∃ (k n : Nat), k ≤ m ∧ i = .int .i64 k ∧ nv = .int .i64 n ∧ n = sumC (C.take k) ∧ wr = w) (fun _ i _ => m - (intOf i).toNat)
  case atStart => exact ⟨0, 0, Nat.zero_le _, rfl, rfl, by simp [sumC], rfl⟩
  case round =>
    obtain ⟨k, n, hk, rfl, rfl, hn, rfl⟩ := hrel
    have hsum := HC0.out.sum k
    rw [← hn] at hsum
    by_cases hkm : k < m
    · obtain ⟨x, hx⟩ : ∃ x, C[k]? = some x := ⟨C[k]'(by have := HM.out; omega), List.getElem?_eq_getElem _⟩
      have hxn := HCN.out x (List.mem_of_getElem? hx)
      rcases HC.out with h | ⟨b, o, rfl, hlt, hcs⟩
      · rw [h] at hx; simp at hx
      obtain ⟨d1, ev, d2, hev⟩ := hcs k x hx
      have hst := sumC_take hx
      rw [← hn] at hst
      have hev0 := hev
      obtain ⟨a2, c2, rfl, hc2, hE2, hEf, hE⟩ := hev
      obtain ⟨m2, hm2⟩ : ∃ m2, x.eds.length = m2 := ⟨_, rfl⟩
      rw [hm2] at hc2 hE2 d2
      have hnx := HC0.out.sum (k + 1)
      have w1 : IntKind.i64.wrap ((n : Int) + 20) = (n : Int) + 20 := IntWalk.i64_in _ (by omega)
      have w2 : IntKind.i64.wrap ((n : Int) + 20 + (x.name.size : Int)) = (n : Int) + 20 + (x.name.size : Int) := IntWalk.i64_in _ (by omega)
      have HST := Lib.hid hst
      have HNX := Lib.hid hnx
      have HE := Lib.hid hE
      have HE0 := Lib.hid hev0
      have HEF := Lib.hid hEf
      have HM2 := Lib.hid hm2
      clear hst hE hev0 hEf hm2 hn hnx hcs hx
      go_wp2
      go_loopw [3, 5] (fun nv i wr' => ∃ (j n' : Nat), j ≤ m2 ∧ i = .int .i64 j ∧ nv = .int .i64 n' ∧ n' = n + 20 + x.name.size + sumE (x.eds.take j) ∧ wr' = wr) (fun _ i _ => m2 - (intOf i).toNat)
      case atStart => exact ⟨0, n + 20 + x.name.size, Nat.zero_le _, rfl, by simp, by simp [sumE], rfl⟩
      case round =>
        obtain ⟨j, n', hj, rfl, rfl, hn', rfl⟩ := hrel
        by_cases hjm : j < m2
        · obtain ⟨e, he⟩ : ∃ e, x.eds[j]? = some e := ⟨x.eds[j]'(by have := HM2.out; omega), List.getElem?_eq_getElem _⟩
          have hef := (HEF.out e (List.mem_of_getElem? he)).2.2.2.2
          rcases HE.out with h | ⟨b2, o2, rfl, hlt2, hcs⟩
          · rw [h] at he; simp at he
          obtain ⟨_, _, d5⟩ := hcs j e he
          have hst2 := sumE_take he
          have hs2 := HE0.out.tail j
          have w3 : IntKind.i64.wrap ((n' : Int) + 10) = (n' : Int) + 10 := IntWalk.i64_in _ (by omega)
          have w4 : IntKind.i64.wrap ((n' : Int) + 10 + (e.tx.size : Int)) = (n' : Int) + 10 + (e.tx.size : Int) := IntWalk.i64_in _ (by omega)
          have HS2 := Lib.hid hst2
          have HN' := Lib.hid hn'
          clear hst2 hn' hcs he
          go_wp2
          go_roundw
          case rel => exact ⟨j + 1, n' + 10 + e.tx.size, by omega, by go_num, by simp, by rw [HS2.out, HN'.out]; omega, trivial⟩
          case measure => simp [intOf]; omega
        · obtain rfl : j = m2 := by omega
          have ht : x.eds.take j = x.eds := List.take_of_length_le (by have := HM2.out; omega)
          rw [ht] at hn'
          have HN' := Lib.hid hn'
          clear hn' ht
          go_wp2
          go_roundw
          case rel => exact ⟨k + 1, n', by omega, by go_num, rfl, by rw [HST.out, HN'.out]; omega, trivial⟩
          case measure => simp [intOf]; omega
    · obtain rfl : k = m := by omega
      have ht : C.take k = C := List.take_of_length_le (by have := HM.out; omega)
      rw [ht] at hn
      have hg : greatF C = decide ((2000 : Int) < (n : Int)) := by
        unfold greatF
        rw [← hn]
        rw [decide_eq_decide]
        omega
      have HG := Lib.hid hg
      clear hn ht hg
      go_wp2
      go_ret
      exact ⟨by rw [HG.out]; rfl, rfl⟩

end Go.Proofs.YtbodemkmjemdjaaDoor
