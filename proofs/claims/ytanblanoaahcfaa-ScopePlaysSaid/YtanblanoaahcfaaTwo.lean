/-
  The program's scope, the reference's, and the step in hand, side by side in memory.
-/
import Derived.Test.YtanblanoaahcfaaMatch
namespace Go.Proofs.Ytanblanoaahcfaa
open Go.RowKit

structure Two (w wr : World) (sb : Nat) (ρ : Nat → Option Role) (nm : ByteArray → List (Nat × Bool)) (bl : List (List ByteArray)) (rb : Nat) (ρr : Nat → Option Role) (many : Nat) (all : List SaidT) : Prop where
  sc : Sc wr sb ρ nm bl
  rf : Rf wr rb ρr many all
  up : ∀ q, ρ q ≠ none → w.heap.size ≤ q
  upr : ∀ q, ρr q ≠ none → w.heap.size ≤ q
  dis : ∀ q, ρr q ≠ none → ρ q = none
  below : Below w.heap.size w wr

section
variable {w wr w' : World} {sb : Nat} {ρ ρ' : Nat → Option Role} {nm nm' : ByteArray → List (Nat × Bool)} {bl bl' : List (List ByteArray)} {rb : Nat} {ρr ρr' : Nat → Option Role} {many many' : Nat} {all all' : List SaidT}

theorem Two.back (h : Two w wr sb ρ nm bl rb ρr many all) : ∀ q, ρ q ≠ none → ρr q = none := fun q hq => by
  cases e : ρr q with
  | none => rfl
  | some r => exact (hq (h.dis q (by rw [e]; simp))).elim

theorem Two.goA (h : Two w wr sb ρ nm bl rb ρr many all) (hs : Sc w' sb ρ' nm' bl') (hm : Moves wr w' ρ ρ') : Two w w' sb ρ' nm' bl' rb ρr many all := by
  obtain ⟨h1, h2⟩ := h.rf.other hm h.dis
  obtain ⟨h3, h4⟩ := hm.below (w := w) h.below h.up
  exact ⟨hs, h1, h4, h.upr, h2, h3⟩

theorem Two.goR (h : Two w wr sb ρ nm bl rb ρr many all) (hs : Rf w' rb ρr' many' all') (hm : Moves wr w' ρr ρr') : Two w w' sb ρ nm bl rb ρr' many' all' := by
  obtain ⟨h1, h2⟩ := h.sc.other hm h.back
  obtain ⟨h3, h4⟩ := hm.below (w := w) h.below h.upr
  refine ⟨h1, hs, h.up, h4, fun q hq => ?_, h3⟩
  cases e : ρ q with
  | none => rfl
  | some r => exact (hq (h2 q (by rw [e]; simp))).elim

theorem Two.later (h : Two w wr sb ρ nm bl rb ρr many all) (hb : Below wr.heap.size wr w') : Two w w' sb ρ nm bl rb ρr many all :=
  ⟨h.sc.frame hb.size (fun q hq => hb.block q (h.sc.lt q hq)), h.rf.frame hb.size (fun q hq => hb.block q (h.rf.lt q hq)), h.up, h.upr, h.dis, h.below.trans (hb.mono h.below.size)⟩

theorem Two.drewN (h : Two w wr sb ρ nm bl rb ρr many all) (n : Nat) : Two w (wr.drewN n) sb ρ nm bl rb ρr many all :=
  ⟨h.sc.drewN n, h.rf.drewN n, h.up, h.upr, h.dis, drewN_below h.below n⟩

/-- A block beside the two. -/
structure Beside (wr : World) (ρ ρr : Nat → Option Role) (xb : Nat) (xk : Int) (xn : ByteArray) (xt : Bool) : Prop where
  c0 : wr.cell? ⟨xb, 0, none⟩ = some (.int .i64 xk)
  c1 : wr.cell? ⟨xb, 1, none⟩ = some (.string xn)
  c2 : wr.cell? ⟨xb, 2, none⟩ = some (.bool xt)
  lt : xb < wr.heap.size
  no : ρ xb = none
  nor : ρr xb = none

variable {xb : Nat} {xk : Int} {xn : ByteArray} {xt : Bool}

theorem moves_none {w w' : World} {ρ ρ' : Nat → Option Role} (hm : Moves w w' ρ ρ') (q : Nat) (hq : q < w.heap.size) (hn : ρ q = none) : ρ' q = none := by
  cases e : ρ' q with
  | none => rfl
  | some r =>
    rcases hm.old q (by rw [e]; simp) with h1 | h1
    · exact (h1 hn).elim
    · omega

theorem Beside.goA (h : Beside wr ρ ρr xb xk xn xt) (hm : Moves wr w' ρ ρ') : Beside w' ρ' ρr xb xk xn xt := by
  have hb := hm.turns.block xb h.lt h.no
  exact ⟨by rw [World.cell?_of_block hb]; exact h.c0, by rw [World.cell?_of_block hb]; exact h.c1, by rw [World.cell?_of_block hb]; exact h.c2, Nat.lt_of_lt_of_le h.lt hm.turns.size, moves_none hm xb h.lt h.no, h.nor⟩

theorem Beside.goR (h : Beside wr ρ ρr xb xk xn xt) (hm : Moves wr w' ρr ρr') : Beside w' ρ ρr' xb xk xn xt := by
  have hb := hm.turns.block xb h.lt h.nor
  exact ⟨by rw [World.cell?_of_block hb]; exact h.c0, by rw [World.cell?_of_block hb]; exact h.c1, by rw [World.cell?_of_block hb]; exact h.c2, Nat.lt_of_lt_of_le h.lt hm.turns.size, h.no, moves_none hm xb h.lt h.nor⟩

theorem Beside.later (h : Beside wr ρ ρr xb xk xn xt) (hb : Below wr.heap.size wr w') : Beside w' ρ ρr xb xk xn xt :=
  ⟨cell_later hb h.c0, cell_later hb h.c1, cell_later hb h.c2, Nat.lt_of_lt_of_le h.lt hb.size, h.no, h.nor⟩

theorem Beside.fresh (h : Two w wr sb ρ nm bl rb ρr many all) (xk : Int) (xn : ByteArray) (xt : Bool) : Beside (wr.alloc (.cells #[.int .i64 xk, .string xn, .bool xt] 24)) ρ ρr wr.heap.size xk xn xt := by
  refine ⟨box_cell _ _ _ _ _ rfl, box_cell _ _ _ _ _ rfl, box_cell _ _ _ _ _ rfl, by simp, ?_, ?_⟩
  · cases e : ρ wr.heap.size with
    | none => rfl
    | some r => have := h.sc.lt wr.heap.size (by rw [e]; simp); omega
  · cases e : ρr wr.heap.size with
    | none => rfl
    | some r => have := h.rf.lt wr.heap.size (by rw [e]; simp); omega

/-- One goes on with the copy. -/
theorem Two.swap {B : Nat} {sb2 : Nat} {ρ2 : Nat → Option Role} (h : Two w wr sb ρ nm bl rb ρr many all) (hs : Sc wr sb2 ρ2 nm' bl') (h2 : ∀ q, ρ2 q ≠ none → B ≤ q) (hB : w.heap.size ≤ B) (hr : ∀ q, ρr q ≠ none → q < B) : Two w wr sb2 ρ2 nm' bl' rb ρr many all := by
  refine ⟨hs, h.rf, fun q hq => Nat.le_trans hB (h2 q hq), h.upr, fun q hq => ?_, h.below⟩
  cases e : ρ2 q with
  | none => rfl
  | some r => have := h2 q (by rw [e]; simp); have := hr q hq; omega

/-- Two scopes' start. -/
theorem Two.start {w1 w2 : World} {sb : Nat} {ρ : Nat → Option Role} (hs : Sc w1 sb ρ nm bl) (hm : Moves w w1 (fun _ => none) ρ) (hb : Below w1.heap.size w1 w2) :
    Two w (w2.alloc (.cells #[.int .i64 1, .slice none 0 0] 35)) sb ρ nm bl w2.heap.size (fun k => if k = w2.heap.size then some .str else none) 1 [] := by
  obtain ⟨h1, h2⟩ := hm.below (w := w) (Below.refl _ w) (by simp)
  have hw := h1.size
  have hb' : Below w1.heap.size w1 (w2.alloc (.cells #[.int .i64 1, .slice none 0 0] 35)) := hb.alloc hb.size _
  refine ⟨hs.frame hb'.size (fun q hq => hb'.block q (hs.lt q hq)), ⟨.slice none 0 0, ⟨heap_alloc_new w2 _, World.ownsRow_nil _ 0 57 3, fun _ => rfl, by simp, (by intro g hg; cases hg), fun k hk => ?_⟩⟩, h2, fun q hq => ?_, fun q hq => ?_, h1.trans (hb'.mono hw)⟩
  · by_cases e : k = w2.heap.size
    · rw [e]; simp
    · simp [e] at hk
  · by_cases e : q = w2.heap.size
    · have := hb.size; omega
    · simp [e] at hq
  · by_cases e : q = w2.heap.size
    · cases e2 : ρ q with
      | none => rfl
      | some r => have := hs.lt q (by rw [e2]; simp); have := hb.size; omega
    · simp [e] at hq
end

/-- The steps under way: k have been taken. -/
def Both (w wr : World) (sb rb k : Nat) : Prop := ∃ ρ nm bl ρr many all, Two w wr sb ρ nm bl rb ρr many all ∧ Bd k nm bl ∧ Inv nm bl ∧ Same k nm bl many all

/-! ### The calls, with a letter for the answer -/
theorem openA {w : World} {sb ρ nm bl k} (h : Sc w sb ρ nm bl) (hB : Bd k nm bl) (hk : k < 900000) (V : Int) (hV : (if bl.length = 65536 then (4 : Int) else 0) = V) :
    Calls Try.prog 9 #[.pointer (some ⟨sb, 0, none⟩)] w fun e w' => e = .returned (.int .i64 V) ∧ Goes w sb ρ nm (openB bl) w' := by
  subst hV; exact open_sc h hB hk
theorem closeA {w : World} {sb ρ nm bl k} (h : Sc w sb ρ nm bl) (hB : Bd k nm bl) (hI : Inv nm bl) (hk : k < 800000) (V : Int) (hV : (if bl.length = 1 then (100 : Int) else 0) = V) :
    Calls Try.prog 15 #[.pointer (some ⟨sb, 0, none⟩)] w fun e w' => e = .returned (.int .i64 V) ∧ Goes w sb ρ (closeNm bl nm) (closeBl bl) w' := by
  subst hV; exact close_sc h hB hI hk
theorem declareA {w : World} {sb ρ nm bl k} (h : Sc w sb ρ nm bl) (hB : Bd k nm bl) (hk : k < 900000) (t : Bool) (s : ByteArray) (hs : s.size ≤ maxLen) (V : Int) (hV : (if s.toList.isEmpty = true then (100 : Int) else 0) = V) :
    Calls Try.prog 10 #[.pointer (some ⟨sb, 0, none⟩), .string s, .bool t] w fun e w' => e = .returned (.int .i64 V) ∧ Goes w sb ρ (declN' bl s t nm) (declB' nm s bl) w' := by
  subst hV; exact declare_sc' h hB hk t s hs
theorem openRV {w : World} {rb m all ρ} (h : Rf w rb ρ m all) (hm : m < 1000000) (V : Int) (hV : (if m = 65536 then (4 : Int) else 0) = V) :
    Calls Try.prog 14 #[.pointer (some ⟨rb, 0, none⟩)] w fun e w' => e = .returned (.int .i64 V) ∧ GoesR w rb ρ (if m = 65536 then m else m + 1) all w' := by
  subst hV; exact openR h hm
theorem closeRV {w : World} {rb many all ρ} (h : Rf w rb ρ many all) (hp : 1 ≤ many) (hm : many < 1000000) (hn : all.length < 1000000) (V : Int) (hV : (if many = 1 then (100 : Int) else 0) = V) :
    Calls Try.prog 16 #[.pointer (some ⟨rb, 0, none⟩)] w fun e w' => e = .returned (.int .i64 V) ∧ GoesR w rb ρ (if many = 1 then many else many - 1) (if many = 1 then all else outerA (many - 1) all) w' := by
  subst hV; exact closeR h hp hm hn
theorem declRV {w : World} {rb many all ρ} (h : Rf w rb ρ many all) (hp : 1 ≤ many) (hm : many < 1000000) (hn : all.length < 1000000) (t : Bool) (s : ByteArray) (V : Int) (hV : (if s.toList.isEmpty = true then (100 : Int) else 0) = V) :
    Calls Try.prog 17 #[.pointer (some ⟨rb, 0, none⟩), .string s, .bool t] w fun e w' => e = .returned (.int .i64 V) ∧ GoesR w rb ρ many (declA (many - 1) s t all) w' := by
  subst hV; exact declR h hp hm hn t s
theorem blocksQ {w : World} {sb ρ nm bl} (h : Sc w sb ρ nm bl) (n : Nat) (hn : bl.length = n) (q : Nat) :
    Calls Try.prog 18 #[.pointer (some ⟨sb, 0, none⟩)] (w.drewN q) fun e w'' => e = .returned (.int .i64 n) ∧ ∃ m, w'' = w.drewN m :=
  (blocks_sc (h.drewN q) n hn).mono fun _ _ ⟨h1, h2⟩ => ⟨h1, q, h2.symm⟩

end Go.Proofs.Ytanblanoaahcfaa
