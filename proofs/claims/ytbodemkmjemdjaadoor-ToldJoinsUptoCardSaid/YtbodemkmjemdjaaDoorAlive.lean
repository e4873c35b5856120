/-
  The chapter's first example: alive is true.
-/
import Derived.Test.YtbodemkmjemdjaaDoorText
namespace Go.Proofs.YtbodemkmjemdjaaDoor
open Go.RowKit

def fewC : List Chg := [⟨⟨#[97, 46, 99]⟩, [⟨1, 3, ⟨#[120, 10, 121]⟩⟩]⟩]

theorem few_valid : validF fewC = true := by decide +kernel
theorem few_lines : linesOf ⟨#[120, 10, 121]⟩ = [⟨#[120, 10]⟩, ⟨#[121]⟩] := by decide +kernel
theorem itoa2 : Lib.itoa 2 = [50] := by
  unfold Lib.itoa
  rw [if_neg (by decide)]
  unfold Lib.decDigits
  simp
theorem few_text : textL fewC = [61, 32, 97, 46, 99, 10, 64, 32, 50, 32, 50, 32, 50, 10, 43, 120, 10, 43, 121, 10, 45, 10] := by
  have h1 : (linesOf ⟨#[120, 10, 121]⟩).length = 2 := by rw [few_lines]; rfl
  simp only [textL, fewC, List.flatMap_cons, List.flatMap_nil, chgText, edsText, edText, headText, endText, few_lines, linesText]
  simp only [List.length_cons, List.length_nil, show (1 : Int) + 1 = 2 from rfl, show (3 : Int) - 1 = 2 from rfl, show ((0 + 1 + 1 : Nat) : Int) = 2 from rfl, itoa2]
  decide +kernel

set_option maxHeartbeats 1000000 in
theorem few_any (w : World) : Calls Tryd.prog 13 #[] w fun e w' => ∃ v, e = .returned v ∧ ChgsAt w' v fewC ∧ Below w.heap.size w w' := by
  go_enter Tryd.func13, Tryd.ntmps13
  go_wp2
  go_ret
  refine ⟨_, rfl, ?_, ((Below.refl _ w).alloc (Nat.le_refl _) _).alloc (by simp) _⟩
  refine ⟨_, _, rfl, by decide, by decide, by decide, ?_, .inr ⟨_, _, rfl, by simp, ?_⟩⟩
  · intro x hx
    simp only [fewC, List.mem_singleton] at hx
    subst hx
    decide
  · intro k x hx
    cases k with
    | zero =>
      simp only [fewC, List.getElem?_cons_zero, Option.some.injEq] at hx
      subst hx
      have e1 : ∀ (W : World) (cs : Array Value) (t : TypeId) (o : Obj) (j : Nat) (v : Value), cs[j]? = some v → ((W.alloc (.cells cs t)).alloc o).cell? ⟨W.heap.size, j, none⟩ = some v := fun W cs t o j v h =>
        cell_later ((Below.refl _ _).alloc (Nat.le_refl _) o) (box_cell W cs t j v h)
      have e2 : ∀ (W : World) (o : Obj) (cs : Array Value) (t : TypeId) (j : Nat) (v : Value), cs[j]? = some v → ((W.alloc o).alloc (.cells cs t)).cell? ⟨W.heap.size + 1, j, none⟩ = some v := fun W o cs t j v h => by
        have := box_cell (W.alloc o) cs t j v h
        rwa [World.size_alloc] at this
      refine ⟨e2 _ _ _ _ _ _ rfl, _, e2 _ _ _ _ _ _ rfl, _, _, rfl, by decide, by decide, ?_, .inr ⟨_, _, rfl, by simp; omega, ?_⟩⟩
      · intro e he
        simp only [List.mem_singleton] at he
        subst he
        unfold Ed.fits
        decide
      · intro i e he
        cases i with
        | zero =>
          simp only [List.getElem?_cons_zero, Option.some.injEq] at he
          subst he
          exact ⟨e1 _ _ _ _ _ _ rfl, e1 _ _ _ _ _ _ rfl, e1 _ _ _ _ _ _ rfl⟩
        | succ i => simp at he
    | succ k => simp [fewC] at hx

set_option maxHeartbeats 1000000 in
theorem alive_any (ml : Int) (w : World) (hm : w.cell? ⟨1, 0, none⟩ = some (.int .i64 ml)) (hp : Pow10 w) :
    Calls Tryd.prog 6 #[] w fun e w' => e = .returned (.bool true) ∧ Below w.heap.size w w' := by
  have HM := Lib.hid hm
  have HP := Lib.hid hp
  clear hm hp
  go_enter Tryd.func6, Tryd.ntmps6
  go_wp2_with fail
  refine (few_any w).mono ?_
  rintro e w1 ⟨v, rfl, hc, hb1⟩
  have htx := text_any v fewC ml w1 hc (cell_later hb1 HM.out) (pow10_below HP.out hb1) (fun _ => by rw [few_text]; decide)
  have etx : textF fewC = (⟨#[61, 32, 97, 46, 99, 10, 64, 32, 50, 32, 50, 32, 50, 10, 43, 120, 10, 43, 121, 10, 45, 10]⟩, 0) := by unfold textF; rw [few_valid, if_pos rfl, few_text]
  rw [etx] at htx
  have HT := Lib.hid htx
  obtain ⟨a, c, rfl, _⟩ := hc
  clear htx etx
  go_wp2_with fail
  refine HT.out.mono ?_
  rintro e w2 ⟨rfl, hb2⟩
  go_wp2
  go_ret
  exact ⟨rfl, hb1.trans (hb2.mono hb1.size)⟩

end Go.Proofs.YtbodemkmjemdjaaDoor
