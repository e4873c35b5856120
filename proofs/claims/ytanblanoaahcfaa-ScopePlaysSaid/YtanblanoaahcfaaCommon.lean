/-
  What the calls do, as the laws use them; the example of the chapter (alive) is true.
-/
import Derived.Test.YtanblanoaahcfaaDecl2
import Derived.Test.YtanblanoaahcfaaCopy
import Derived.BigQuiet
import Derived.Deep.QuietTactic
namespace Go.Proofs.Ytanblanoaahcfaa
open Go.RowKit Go.ChangeMaps Go.MapKept Go.WideMaps

/-! ### What the calls do, for the laws -/
theorem Sc.frame {w w' : World} {sb ρ nm bl} (h : Sc w sb ρ nm bl) (hs : w.heap.size ≤ w'.heap.size) (hb : ∀ k, ρ k ≠ none → w'.heap[k]? = w.heap[k]?) : Sc w' sb ρ nm bl := by
  obtain ⟨mb, bv, M, bs, h⟩ := h
  exact ⟨mb, bv, M, bs, h.frame hs hb⟩

theorem Sc.drewN {w : World} {sb ρ nm bl} (h : Sc w sb ρ nm bl) (n : Nat) : Sc (w.drewN n) sb ρ nm bl := h.frame (Nat.le_refl _) (fun _ _ => rfl)

theorem Sc.lt {w : World} {sb ρ nm bl} (h : Sc w sb ρ nm bl) : ∀ k, ρ k ≠ none → k < w.heap.size := by
  obtain ⟨mb, bv, M, bs, h⟩ := h
  exact h.lt

/-- Another scope, none of whose blocks are this one's, stays what it is. -/
theorem Sc.other {w w' : World} {sb2 ρ2 nm2 bl2} {ρ ρ' : Nat → Option Role} (h : Sc w sb2 ρ2 nm2 bl2) (hm : Moves w w' ρ ρ') (hd : ∀ k, ρ2 k ≠ none → ρ k = none) : Sc w' sb2 ρ2 nm2 bl2 ∧ ∀ k, ρ2 k ≠ none → ρ' k = none := by
  refine ⟨h.frame hm.turns.size (fun k hk => hm.turns.block k (h.lt k hk) (hd k hk)), fun k hk => ?_⟩
  cases e : ρ' k with
  | none => rfl
  | some r =>
    rcases hm.old k (by rw [e]; simp) with h1 | h1
    · exact (h1 (hd k hk)).elim
    · have := h.lt k hk; omega

theorem Moves.below {w wr w' : World} {ρ ρ' : Nat → Option Role} (hb : Below w.heap.size w wr) (hm : Moves wr w' ρ ρ') (hρ : ∀ k, ρ k ≠ none → w.heap.size ≤ k) : Below w.heap.size w w' ∧ ∀ k, ρ' k ≠ none → w.heap.size ≤ k := by
  refine ⟨hb.trans ⟨hm.turns.os, hm.turns.tape, hm.turns.output, hm.turns.size, fun k hk => hm.turns.block k (by have := hb.size; omega) ?_⟩, fun k hk => ?_⟩
  · cases e : ρ k with
    | none => rfl
    | some r => have := hρ k (by rw [e]; simp); omega
  · rcases hm.old k hk with h1 | h1
    · exact hρ k h1
    · have := hb.size; omega

theorem isType_sc {w : World} {sb ρ nm bl} (h : Sc w sb ρ nm bl) (s : ByteArray) (hs : s.size ≤ maxLen) (hk : (nm s).length ≤ 1000000) :
    Calls Try.prog 12 #[.pointer (some ⟨sb, 0, none⟩), .string s] w fun e w' => e = .returned (.bool (lastB (nm s))) ∧ w = w' := by
  obtain ⟨mb, bv, M, bs, h⟩ := h
  exact isType_any h s hs hk

theorem isTypeQ {w : World} {sb ρ nm bl} (h : Sc w sb ρ nm bl) (s : ByteArray) (hs : s.size ≤ maxLen) (hk : (nm s).length ≤ 1000000) (b : Bool) (hb : lastB (nm s) = b) (n : Nat) :
    Calls Try.prog 12 #[.pointer (some ⟨sb, 0, none⟩), .string s] (w.drewN n) fun e w'' => e = .returned (.bool b) ∧ ∃ m, w'' = w.drewN m :=
  (isType_sc (h.drewN n) s hs hk).mono fun e w' ⟨h1, h2⟩ => ⟨by rw [h1, hb], n, h2.symm⟩

theorem blocks_sc {w : World} {sb ρ nm bl} (h : Sc w sb ρ nm bl) (n : Nat) (hn : bl.length = n) :
    Calls Try.prog 18 #[.pointer (some ⟨sb, 0, none⟩)] w fun e w' => e = .returned (.int .i64 n) ∧ w = w' := by
  obtain ⟨mb, bv, M, bs, h⟩ := h
  subst hn
  exact blocks_any h

/-- All lists are short: k steps have been taken. -/
structure Bd (k : Nat) (nm : ByteArray → List (Nat × Bool)) (bl : List (List ByteArray)) : Prop where
  pos : 1 ≤ bl.length
  len : bl.length ≤ k + 1
  names : ∀ s, (nm s).length ≤ k
  each : ∀ l ∈ bl, l.length ≤ k

theorem Bd.mono {k k' nm bl} (h : Bd k nm bl) (hk : k ≤ k') : Bd k' nm bl :=
  ⟨h.pos, by have := h.len; omega, fun s => Nat.le_trans (h.names s) hk, fun l hl => Nat.le_trans (h.each l hl) hk⟩

theorem Bd.new : Bd 0 (fun _ => []) [[]] := ⟨by simp, by simp, by simp, by simp⟩

/-- What Declare makes of the names. -/
def declN (bl : List (List ByteArray)) (s : ByteArray) (t : Bool) (nm : ByteArray → List (Nat × Bool)) : ByteArray → List (Nat × Bool) :=
  fun k => if k = s then declMarks (bl.length - 1) t (nm s) else nm k
/-- What Declare makes of the blocks. -/
def declB (nm : ByteArray → List (Nat × Bool)) (s : ByteArray) (bl : List (List ByteArray)) : List (List ByteArray) :=
  if ((nm s).getLast?).map (·.1) = some (bl.length - 1) then bl else bl.set (bl.length - 1) (bl.getD (bl.length - 1) [] ++ [s])
/-- What Open makes of the blocks. -/
def openB (bl : List (List ByteArray)) : List (List ByteArray) := if bl.length = 65536 then bl else bl ++ [[]]

theorem declMarks_length (m : Nat) (t : Bool) (l : List (Nat × Bool)) : (declMarks m t l).length ≤ l.length + 1 := by
  unfold declMarks
  split
  · rename_i h
    have : l ≠ [] := by rintro rfl; simp at h
    simp
  · simp

theorem Bd.decl {k nm bl} (h : Bd k nm bl) (s : ByteArray) (t : Bool) : Bd (k + 1) (declN bl s t nm) (declB nm s bl) := by
  have hl : (declB nm s bl).length = bl.length := by unfold declB; split <;> simp
  refine ⟨by rw [hl]; exact h.pos, by rw [hl]; have := h.len; omega, fun q => ?_, fun l hl' => ?_⟩
  · unfold declN
    split
    · have := declMarks_length (bl.length - 1) t (nm s); have := h.names s; omega
    · have := h.names q; omega
  · unfold declB at hl'
    split at hl'
    · have := h.each l hl'; omega
    · rcases List.mem_or_eq_of_mem_set hl' with h1 | h1
      · have := h.each l h1; omega
      · subst h1
        have hp := h.pos
        have : bl.getD (bl.length - 1) [] ∈ bl := by
          rw [List.getD_eq_getElem?_getD, List.getElem?_eq_getElem (by omega)]
          exact List.getElem_mem _
        have := h.each _ this
        simp
        simpa using this

theorem Bd.opened {k nm bl} (h : Bd k nm bl) : Bd (k + 1) nm (openB bl) := by
  unfold openB
  split
  · exact h.mono (by omega)
  · refine ⟨by simp, by simp; exact h.len, fun s => by have := h.names s; omega, fun l hl => ?_⟩
    rcases List.mem_append.1 hl with h1 | h1
    · have := h.each l h1; omega
    · simp at h1; subst h1; simp

theorem declare_sc {w : World} {sb ρ nm bl k} (h : Sc w sb ρ nm bl) (hB : Bd k nm bl) (hk : k < 900000) (t : Bool) (s : ByteArray) (hs0 : s.toList.isEmpty = false) (hs : s.size ≤ maxLen) :
    Calls Try.prog 10 #[.pointer (some ⟨sb, 0, none⟩), .string s, .bool t] w fun e w' => e = .returned (.int .i64 0) ∧ Goes w sb ρ (declN bl s t nm) (declB nm s bl) w' := by
  have hp := hB.pos
  have hl := hB.len
  have hm : bl.getD (bl.length - 1) [] ∈ bl := by
    rw [List.getD_eq_getElem?_getD, List.getElem?_eq_getElem (by omega)]
    exact List.getElem_mem _
  exact declare_any h t s hs0 hs (bl.length - 1) (bl.getD (bl.length - 1) []) (by omega) (by rw [List.getD_eq_getElem?_getD, List.getElem?_eq_getElem (by omega)]; rfl) (by omega) (by have := hB.names s; omega) (by have := hB.each _ hm; omega)

/-- Declare, whatever the name. -/
def declN' (bl : List (List ByteArray)) (s : ByteArray) (t : Bool) (nm : ByteArray → List (Nat × Bool)) : ByteArray → List (Nat × Bool) := if s.toList.isEmpty = true then nm else declN bl s t nm
def declB' (nm : ByteArray → List (Nat × Bool)) (s : ByteArray) (bl : List (List ByteArray)) : List (List ByteArray) := if s.toList.isEmpty = true then bl else declB nm s bl

theorem Bd.decl' {k nm bl} (h : Bd k nm bl) (s : ByteArray) (t : Bool) : Bd (k + 1) (declN' bl s t nm) (declB' nm s bl) := by
  unfold declN' declB'
  split
  · exact h.mono (by omega)
  · exact h.decl s t

theorem declare_sc' {w : World} {sb ρ nm bl k} (h : Sc w sb ρ nm bl) (hB : Bd k nm bl) (hk : k < 900000) (t : Bool) (s : ByteArray) (hs : s.size ≤ maxLen) :
    Calls Try.prog 10 #[.pointer (some ⟨sb, 0, none⟩), .string s, .bool t] w fun e w' => e = .returned (.int .i64 (if s.toList.isEmpty = true then 100 else 0)) ∧ Goes w sb ρ (declN' bl s t nm) (declB' nm s bl) w' := by
  unfold declN' declB'
  cases hs0 : s.toList.isEmpty with
  | true =>
    obtain ⟨mb, bv, M, bs, h⟩ := h
    refine (declare_empty h t s (by simpa using hs0)).mono fun e w' ⟨h1, h2⟩ => ⟨by simpa using h1, ?_⟩
    subst h2
    simp only [if_true]
    exact ⟨ρ, ⟨mb, bv, M, bs, h⟩, Moves.refl _ _⟩
  | false => simpa using declare_sc h hB hk t s hs0 hs

theorem open_sc {w : World} {sb ρ nm bl k} (h : Sc w sb ρ nm bl) (hB : Bd k nm bl) (hk : k < 900000) :
    Calls Try.prog 9 #[.pointer (some ⟨sb, 0, none⟩)] w fun e w' => e = .returned (.int .i64 (if bl.length = 65536 then 4 else 0)) ∧ Goes w sb ρ nm (openB bl) w' :=
  open_any h (by have := hB.len; omega)

theorem copy_sc {w : World} {sb ρ nm bl k} (h : Sc w sb ρ nm bl) (hB : Bd k nm bl) (hk : k < 900000) :
    Calls Try.prog 11 #[.pointer (some ⟨sb, 0, none⟩)] w fun e w' => ∃ sb2 ρ2, e = .returned (.pointer (some ⟨sb2, 0, none⟩)) ∧ Sc w' sb2 ρ2 nm bl ∧ Below w.heap.size w w' ∧ ∀ q, ρ2 q ≠ none → w.heap.size ≤ q := by
  refine (copy_any h (fun s => by have := hB.names s; omega) (by have := hB.len; omega) (fun l hl => by have := hB.each l hl; omega)).mono ?_
  rintro e w' ⟨sb2, mb2, r, rfl, hb, _, bv2, M2, bs2, ρ2, hS, hq⟩
  refine ⟨sb2, ρ2, rfl, ⟨mb2, bv2, M2, bs2, ?_⟩, hb, fun q hq' => (hq q hq').1⟩
  simpa using hS

/-! ### the chapter's first example -/
def tName : ByteArray := ⟨#[84]⟩
theorem lastB_decl (m : Nat) (t : Bool) (l : List (Nat × Bool)) : lastB (declMarks m t l) = t := by
  unfold declMarks lastB
  split <;> simp

set_option maxHeartbeats 1000000 in
theorem alive_any (w : World) : Calls Try.prog 7 #[] w fun e w' => e = .returned (.bool true) ∧ Below w.heap.size w w' := by
  have hs0 : (⟨#[84]⟩ : ByteArray).toList.isEmpty = false := by kernel_rfl
  have hsz : (⟨#[84]⟩ : ByteArray).size ≤ maxLen := by decide
  go_enter Try.func7, Try.ntmps7
  go_wp2_with fail
  refine (new_any w).mono ?_
  rintro e w1 ⟨sb, ρ, rfl, hsc1, hm1⟩
  obtain ⟨hb1, hq1⟩ := hm1.below (Below.refl _ w) (by simp)
  have hB1 : Bd 1 _ _ := Bd.new.decl ⟨#[84]⟩ true
  go_wp2_with fail
  refine (declare_sc hsc1 Bd.new (by omega) true _ hs0 hsz).mono ?_
  rintro e w2 ⟨rfl, ρ2, hsc2, hm2⟩
  obtain ⟨hb2, hq2⟩ := hm2.below hb1 hq1
  go_wp2_with fail
  refine (isType_sc hsc2 _ hsz (by have := hB1.names ⟨#[84]⟩; omega)).mono ?_
  rintro e w3 ⟨rfl, rfl⟩
  go_wp2_with fail
  refine (open_sc hsc2 hB1 (by omega)).mono ?_
  rintro e w3 ⟨rfl, ρ3, hsc3, hm3⟩
  obtain ⟨hb3, hq3⟩ := hm3.below hb2 hq2
  have hB3 : Bd 2 _ _ := hB1.opened
  have e1 : lastB (declN [[]] ⟨#[84]⟩ true (fun _ => []) ⟨#[84]⟩) = true := by simp [declN, lastB_decl]
  rw [e1]
  clear e1
  go_wp2_with fail
  refine (isType_sc hsc3 _ hsz (by have := hB1.names ⟨#[84]⟩; omega)).mono ?_
  rintro e w4 ⟨rfl, rfl⟩
  have e1 : lastB (declN [[]] ⟨#[84]⟩ true (fun _ => []) ⟨#[84]⟩) = true := by simp [declN, lastB_decl]
  rw [e1]
  clear e1
  go_wp2_with fail
  refine (declare_sc hsc3 hB3 (by omega) false _ hs0 hsz).mono ?_
  rintro e w5 ⟨rfl, ρ5, hsc5, hm5⟩
  obtain ⟨hb5, hq5⟩ := hm5.below hb3 hq3
  have hB5 : Bd 3 _ _ := hB3.decl ⟨#[84]⟩ false
  go_wp2_with fail
  refine (isType_sc hsc5 _ hsz (by have := hB5.names ⟨#[84]⟩; omega)).mono ?_
  rintro e w6 ⟨rfl, rfl⟩
  have e1 : ∀ bl nm, lastB (declN bl ⟨#[84]⟩ false nm ⟨#[84]⟩) = false := fun bl nm => by simp [declN, lastB_decl]
  rw [e1]
  clear e1
  go_wp2_with fail
  refine (blocks_sc hsc5 2 (by kernel_rfl)).mono ?_
  rintro e w6 ⟨rfl, rfl⟩
  go_wp2
  go_ret
  exact ⟨rfl, hb5⟩
end Go.Proofs.Ytanblanoaahcfaa
