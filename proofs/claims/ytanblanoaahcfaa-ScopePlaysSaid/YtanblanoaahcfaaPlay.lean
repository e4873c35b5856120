/-
  The walk of play: whatever is declared in inner blocks, behind it the outer marks and blocks are what they were.
-/
import Derived.Test.YtanblanoaahcfaaClose2
import Derived.Deep.LoopGhost
namespace Go.Proofs.Ytanblanoaahcfaa
open Go.RowKit

/-- What lies in blocks that T names is as it was in W1, and is not of the scope. -/
structure Guard (W1 wr : World) (ρ : Nat → Option Role) (T : Nat → Prop) : Prop where
  os : wr.os = W1.os
  tape : wr.tape = W1.tape
  output : wr.output = W1.output
  size : W1.heap.size ≤ wr.heap.size
  kept : ∀ q, T q → ρ q = none ∧ wr.heap[q]? = W1.heap[q]?
  old : ∀ q, T q → q < W1.heap.size

theorem Guard.step {W1 wr w' : World} {ρ ρ' : Nat → Option Role} {T : Nat → Prop} (h : Guard W1 wr ρ T) (hm : Moves wr w' ρ ρ') : Guard W1 w' ρ' T := by
  refine ⟨hm.turns.os.trans h.os, hm.turns.tape.trans h.tape, hm.turns.output.trans h.output, Nat.le_trans h.size hm.turns.size, fun q hq => ?_, h.old⟩
  have hlt := h.old q hq
  have hs := h.size
  obtain ⟨h1, h2⟩ := h.kept q hq
  refine ⟨?_, (hm.turns.block q (by omega) h1).trans h2⟩
  cases e : ρ' q with
  | none => rfl
  | some r =>
    rcases hm.old q (by rw [e]; simp) with h3 | h3
    · exact (h3 h1).elim
    · omega

theorem Guard.drew {W1 wr : World} {ρ : Nat → Option Role} {T : Nat → Prop} (h : Guard W1 wr ρ T) : Guard W1 wr.drew ρ T := ⟨h.os, h.tape, h.output, h.size, h.kept, h.old⟩

theorem Guard.cell {W1 wr : World} {ρ : Nat → Option Role} {T : Nat → Prop} (h : Guard W1 wr ρ T) {b o : Nat} (hb : T b) {v : Value} (hv : W1.cell? ⟨b, o, none⟩ = some v) : wr.cell? ⟨b, o, none⟩ = some v := by
  rw [World.cell?_of_block (w := W1) (h.kept b hb).2]; exact hv

/-- Steps in blocks that T names. -/
def StepsT (w : World) (T : Nat → Prop) (a : Option Addr) (n : Nat) (st : Nat → Int × ByteArray × Bool) : Prop :=
  n = 0 ∨ ∃ b off, a = some ⟨b, off, none⟩ ∧ T b ∧ (∀ i, i < n → w.cell? ⟨b, off + i * 3, none⟩ = some (.int .i64 (st i).1) ∧ w.cell? ⟨b, off + i * 3 + 1, none⟩ = some (.string (st i).2.1) ∧ w.cell? ⟨b, off + i * 3 + 2, none⟩ = some (.bool (st i).2.2)) ∧ ∀ i, i < n → (st i).2.1.size ≤ maxLen

theorem IsSteps.toT {w w1 : World} {a : Option Addr} {n : Nat} {st} {T : Nat → Prop} (h : IsSteps w a n st) (hb : Below w.heap.size w w1) (hT : ∀ q, q < w.heap.size → T q) : StepsT w1 T a n st := by
  rcases h with h | ⟨b, off, rfl, hlt, h1, h2⟩
  · exact .inl h
  · refine .inr ⟨b, off, rfl, hT b hlt, fun i hi => ?_, h2⟩
    obtain ⟨c1, c2, c3⟩ := h1 i hi
    exact ⟨cell_later hb c1, cell_later hb c2, cell_later hb c3⟩

theorem StepsT.at {W1 wr : World} {ρ} {T : Nat → Prop} {a : Option Addr} {n : Nat} {st} (h : StepsT W1 T a n st) (hg : Guard W1 wr ρ T) (k : Nat) (hk : k < n) :
    ∃ b off, a = some ⟨b, off, none⟩ ∧ T b ∧ wr.cell? ⟨b, off + k * 3, none⟩ = some (.int .i64 (st k).1) ∧ wr.cell? ⟨b, off + k * 3 + 1, none⟩ = some (.string (st k).2.1) ∧ wr.cell? ⟨b, off + k * 3 + 2, none⟩ = some (.bool (st k).2.2) ∧ (st k).2.1.size ≤ maxLen := by
  rcases h with h | ⟨b, off, rfl, hT, h1, h2⟩
  · omega
  · obtain ⟨c1, c2, c3⟩ := h1 k hk
    exact ⟨b, off, rfl, hT, hg.cell hT c1, hg.cell hT c2, hg.cell hT c3, h2 k hk⟩

/-! ### The plain law: outer blocks are not touched -/
structure Bal (m : Nat) (nm0 : ByteArray → List (Nat × Bool)) (bl0 : List (List ByteArray)) (nm : ByteArray → List (Nat × Bool)) (bl : List (List ByteArray)) : Prop where
  inv : Inv nm bl
  len : m + 1 ≤ bl.length
  names : ∀ s, (nm s).filter (fun a => decide (a.1 < m)) = nm0 s
  blocks : bl.take m = bl0

theorem Bal.decl' {m nm0 bl0 nm bl} (h : Bal m nm0 bl0 nm bl) (s : ByteArray) (t : Bool) : Bal m nm0 bl0 (declN' bl s t nm) (declB' nm s bl) := by
  have hl := h.len
  refine ⟨h.inv.decl' (by omega) s t, ?_, fun k => ?_, ?_⟩
  · unfold declB' declB
    split
    · exact hl
    · split
      · exact hl
      · simpa using hl
  · unfold declN' declN
    split
    · exact h.names k
    · dsimp only
      split
      · rename_i e; subst e
        rw [declMarks_filter (fun i => decide (i < m)) (by simp; omega)]
        exact h.names k
      · exact h.names k
  · unfold declB' declB
    split
    · exact h.blocks
    · split
      · exact h.blocks
      · rw [List.take_set, List.set_eq_of_length_le (by simp; omega)]
        exact h.blocks

theorem Bal.opened {m nm0 bl0 nm bl} (h : Bal m nm0 bl0 nm bl) : Bal m nm0 bl0 nm (openB bl) := by
  have hl := h.len
  refine ⟨h.inv.opened, ?_, h.names, ?_⟩
  · unfold openB; split
    · exact hl
    · simp; omega
  · unfold openB; split
    · exact h.blocks
    · rw [List.take_append_of_le_length (by omega)]; exact h.blocks

theorem Bal.closed {m nm0 bl0 nm bl} (h : Bal m nm0 bl0 nm bl) (hl : m + 1 < bl.length) : Bal m nm0 bl0 (closeNm bl nm) (closeBl bl) := by
  have hp : 1 ≤ bl.length := by omega
  have hne : bl.length ≠ 1 := by omega
  refine ⟨h.inv.shut hp, ?_, fun s => ?_, ?_⟩
  · unfold closeBl; rw [if_neg hne]; simp; omega
  · unfold closeNm
    rw [if_neg hne, closeN_eq h.inv (bl.length - 1) (by omega) _ (lastL hp) s, List.filter_filter]
    rw [← h.names s]
    congr 1
    funext a
    by_cases e : a.1 < m
    · have : a.1 < bl.length - 1 := by omega
      simp [e, this]
    · simp [e]
  · unfold closeBl
    rw [if_neg hne, List.dropLast_eq_take, List.take_take, Nat.min_eq_left (by omega)]
    exact h.blocks

/-- At one block more than the outer ones Close leaves just those. -/
theorem Bal.last {m nm0 bl0 nm bl} (h : Bal m nm0 bl0 nm bl) (hl : bl.length = m + 1) (hm : 1 ≤ m) : closeNm bl nm = nm0 ∧ closeBl bl = bl0 := by
  have hne : bl.length ≠ 1 := by omega
  unfold closeNm closeBl
  rw [if_neg hne, if_neg hne]
  refine ⟨?_, ?_⟩
  · funext s
    rw [closeN_eq h.inv (bl.length - 1) (by omega) _ (lastL (by omega)) s, ← h.names s, hl]
    rfl
  · rw [List.dropLast_eq_take, hl]; exact h.blocks

theorem guardCell {W1 w1 w2 : World} {ρ1 ρ2 : Nat → Option Role} {T : Nat → Prop} (h1 : Guard W1 w1 ρ1 T) (h2 : Guard W1 w2 ρ2 T) {b o : Nat} (hb : T b) {v : Value} (h : w1.cell? ⟨b, o, none⟩ = some v) : w2.cell? ⟨b, o, none⟩ = some v := by
  rw [World.cell?_of_block (w := W1) (h2.kept b hb).2, ← World.cell?_of_block (w := W1) (w' := w1) (a := ⟨b, o, none⟩) (h1.kept b hb).2]
  exact h

/-- Play under way. -/
def Game (W1 wr : World) (T : Nat → Prop) (sb k m : Nat) (nm0 : ByteArray → List (Nat × Bool)) (bl0 : List (List ByteArray)) : Prop :=
  ∃ ρ nm bl, Sc wr sb ρ nm bl ∧ Bd k nm bl ∧ Bal m nm0 bl0 nm bl ∧ Guard W1 wr ρ T

/-- How many blocks there are, read off the world. -/
def blen (wr : World) (sb : Nat) : Nat := match wr.cell? ⟨sb, 1, none⟩ with | some (.slice _ n _) => n | _ => 0
theorem Sc.blen {w : World} {sb ρ nm bl} (h : Sc w sb ρ nm bl) : blen w sb = bl.length := by
  obtain ⟨mb, bv, M, bs, h⟩ := h
  obtain ⟨a, c, rfl, _⟩ := ownsRow_slice h.rb
  unfold Ytanblanoaahcfaa.blen
  rw [h.c1]
  exact h.len

set_option maxHeartbeats 2000000 in
theorem play_any (W1 : World) (T : Nat → Prop) (sb k0 m : Nat) (nm0 : ByteArray → List (Nat × Bool)) (bl0 : List (List ByteArray)) (a : Option Addr) (n c : Nat) (st : Nat → Int × ByteArray × Bool) (hn : n ≤ 1000) (hk0 : k0 < 10000) (hm : m < 10000) (hst : StepsT W1 T a n st)
    (ρ nm bl) (hsc : Sc W1 sb ρ nm bl) (hB : Bd k0 nm bl) (hbal : Bal m nm0 bl0 nm bl) (hl : bl.length = m + 1) (hg : Guard W1 W1 ρ T) :
    Calls Try.prog 20 #[.pointer (some ⟨sb, 0, none⟩), .slice a n c] W1 fun e w' => e = .returned (.tuple #[]) ∧ ∃ ρ' nm' bl', Sc w' sb ρ' nm' bl' ∧ Bd (k0 + n) nm' bl' ∧ Bal m nm0 bl0 nm' bl' ∧ bl'.length = m + 1 ∧ Guard W1 w' ρ' T := by
  have HS := Lib.hid hst; clear hst
  have HG0 := Lib.hid (show Game W1 W1 T sb (k0 + 0) m nm0 bl0 from ⟨ρ, nm, bl, hsc, hB, hbal, hg⟩)
  have hbl := blocks_sc hsc (m + 1) hl
  have HBL := Lib.hid hbl
  clear hsc hB hbal hl hg hbl
  go_enter Try.func20, Try.ntmps20
  go_wp2_with fail
  refine HBL.out.mono ?_
  rintro e w' ⟨rfl, rfl⟩
  go_wp2_with fail
  go_loopw [5] (fun i wr => ∃ k : Nat, k ≤ n ∧ i = .int .i64 k ∧ Game W1 wr T sb (k0 + k) m nm0 bl0) (fun i _ => n - (intOf i).toNat)
  case atStart => exact ⟨0, Nat.zero_le _, rfl, HG0.out⟩
  case round =>
    clear HG0 HBL
    obtain ⟨k, hk, rfl, hp⟩ := hrel
    by_cases hkn : k < n
    · obtain ⟨ρ, nm, bl, hsc, hB, hbal, hg⟩ := hp
      obtain ⟨b, off, rfl, hTb, y0, y1, y2, hys⟩ := HS.out.at hg k hkn
      have HSC := Lib.hid hsc
      have HB := Lib.hid hB
      have HBAL := Lib.hid hbal
      have HG := Lib.hid hg
      clear hsc hB hbal hg
      generalize (st k).1 = yk at y0
      generalize (st k).2.1 = yn at y1 hys
      generalize (st k).2.2 = yt at y2
      by_cases h0 : yk = 0
      · subst h0
        go_wp2_with (first
          | (go_at_call 9
             refine (open_sc HSC.out HB.out (by omega)).mono ?_
             rintro e w3 ⟨rfl, ρ3, hsc3, hm3⟩
             have HSC3 := Lib.hid hsc3
             have HM3 := Lib.hid hm3
             clear hsc3 hm3)
          | go_in)
        go_roundw
        case rel => exact ⟨k + 1, by omega, by go_num, ρ3, _, _, HSC3.out, HB.out.opened, HBAL.out.opened, HG.out.step HM3.out⟩
        case measure => simp [intOf]; omega
      · have g0 : (yk == 0) = false := by simp [h0]
        by_cases h1 : yk = 1
        · subst h1
          clear g0 h0
          by_cases h2 : m + 1 < bl.length
          · have g2 : decide ((m : Int) + 1 < (bl.length : Int)) = true := by simp; omega
            go_wp2_with (first
              | (go_at_call 18; refine (blocks_sc HSC.out bl.length rfl).mono ?_; rintro e w3 ⟨rfl, rfl⟩)
              | (go_at_call 15
                 refine (close_sc HSC.out HB.out HBAL.out.inv (by omega)).mono ?_
                 rintro e w3 ⟨rfl, ρ3, hsc3, hm3⟩
                 have HSC3 := Lib.hid hsc3
                 have HM3 := Lib.hid hm3
                 clear hsc3 hm3)
              | go_in)
            go_roundw
            case rel => exact ⟨k + 1, by omega, by go_num, ρ3, _, _, HSC3.out, HB.out.closed.mono (by omega), HBAL.out.closed h2, HG.out.step HM3.out⟩
            case measure => simp [intOf]; omega
          · have g2 : decide ((m : Int) + 1 < (bl.length : Int)) = false := by simp; omega
            go_wp2_with (first
              | (go_at_call 18; refine (blocks_sc HSC.out bl.length rfl).mono ?_; rintro e w3 ⟨rfl, rfl⟩)
              | go_in)
            go_roundw
            case rel => exact ⟨k + 1, by omega, by go_num, ρ, _, _, HSC.out, HB.out.mono (by omega), HBAL.out, HG.out⟩
            case measure => simp [intOf]; omega
        · have g1 : (yk == 1) = false := by simp [h1]
          by_cases h3 : 1 < yk
          · have g3 : decide (1 < yk) = true := by simpa using h3
            clear h0 h1
            go_wp2
            go_region_held3 (fun w' : World => w'.cell? ⟨b, off + k * 3 + 1, none⟩ = some (.string yn) ∧ w'.cell? ⟨b, off + k * 3 + 2, none⟩ = some (.bool yt)) (first | exact ⟨‹_›, ‹_›⟩ | go_keep) (first
              | (go_at_call 10
                 refine (declare_loose (HSC.out.drewN 1) HB.out (by omega) yt yn hys).mono ?_
                 rintro e w3 ⟨v, rfl, ρ3, hsc3, hm3⟩
                 have hgm := HG.out.drew.step hm3
                 have z1 := guardCell HG.out hgm hTb y1
                 have z2 := guardCell HG.out hgm hTb y2
                 have HSC3 := Lib.hid hsc3
                 have HGM := Lib.hid hgm
                 clear hsc3 hm3 hgm)
              | fail)
            go_wp2
            go_roundw
            case rel => exact ⟨k + 1, by omega, by go_num, ρ3, _, _, HSC3.out, HB.out.decl' yn yt, HBAL.out.decl' yn yt, HGM.out⟩
            case measure => simp [intOf]; omega
          · have g3 : decide (1 < yk) = false := by simpa using h3
            clear h0 h1 h3
            go_wp2
            go_roundw
            case rel => exact ⟨k + 1, by omega, by go_num, ρ, _, _, HSC.out, HB.out.mono (by omega), HBAL.out, HG.out⟩
            case measure => simp [intOf]; omega
    · obtain rfl : k = n := by omega
      have HP := Lib.hid hp
      clear hp hkn
      go_wp2_with fail
      go_loopw [57] (fun _ wr => Game W1 wr T sb (k0 + k) m nm0 bl0) (fun _ wr => blen wr sb)
      case atStart => exact HP.out
      case round =>
        clear HP
        obtain ⟨ρ, nm, bl, hsc, hB, hbal, hg⟩ := hrel
        have hbl := hbal.len
        have hbn := hsc.blen
        have HSC := Lib.hid hsc
        have HB := Lib.hid hB
        have HBAL := Lib.hid hbal
        have HG := Lib.hid hg
        have HBN := Lib.hid hbn
        clear hsc hB hbal hg hbn
        by_cases h2 : m + 1 < bl.length
        · have g2 : decide ((m : Int) + 1 < (bl.length : Int)) = true := by simp; omega
          go_wp2_with (first
            | (go_at_call 18; refine (blocks_sc HSC.out bl.length rfl).mono ?_; rintro e w3 ⟨rfl, rfl⟩)
            | (go_at_call 15
               refine (close_sc HSC.out HB.out HBAL.out.inv (by omega)).mono ?_
               rintro e w3 ⟨rfl, ρ3, hsc3, hm3⟩
               have HSC3 := Lib.hid hsc3
               have HM3 := Lib.hid hm3
               clear hsc3 hm3)
            | go_in)
          go_roundw
          case rel => exact ⟨ρ3, _, _, HSC3.out, HB.out.closed, HBAL.out.closed h2, HG.out.step HM3.out⟩
          case measure =>
            rw [HSC3.out.blen, HBN.out]
            unfold closeBl
            rw [if_neg (by omega)]
            simp; omega
        · have g2 : decide ((m : Int) + 1 < (bl.length : Int)) = false := by simp; omega
          have HE := Lib.hid (show bl.length = m + 1 by omega)
          go_wp2_with (first
            | (go_at_call 18; refine (blocks_sc HSC.out bl.length rfl).mono ?_; rintro e w3 ⟨rfl, rfl⟩)
            | go_in)
          go_end0
          exact ⟨rfl, ρ, nm, bl, HSC.out, HB.out, HBAL.out, HE.out, HG.out⟩
end Go.Proofs.Ytanblanoaahcfaa
