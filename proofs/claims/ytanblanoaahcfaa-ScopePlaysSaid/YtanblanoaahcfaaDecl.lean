/-
  What the two appending statements of Declare leave in memory.
-/
import Derived.Test.YtanblanoaahcfaaState
import Derived.Deep.RegionLawGrows
import Derived.Deep.AppendLies
import Derived.Deep.RegionHeld3
namespace Go.Proofs.Ytanblanoaahcfaa
open Go.RowKit Go.ChangeMaps Go.MapKept Go.WideMaps

theorem info48 : (Try.prog.info? 48).map (fun i => (i.zero, i.size, i.bytes)) = some (some (.agg #[.int .i64 0, .bool false]), 2, 16) := by kernel_rfl
theorem info9 : (Try.prog.info? 9).map (fun i => (i.zero, i.size, i.bytes)) = some (some (.string ⟨#[]⟩), 1, 16) := by kernel_rfl
theorem info49 : (Try.prog.info? 49).map (fun i => (i.zero, i.size, i.bytes)) = some (some (.slice none 0 0), 1, 24) := by kernel_rfl

/-- The scope whose struct lies at sb. -/
def Sc (w : World) (sb : Nat) (ρ : Nat → Option Role) (nm : ByteArray → List (Nat × Bool)) (bl : List (List ByteArray)) : Prop :=
  ∃ mb bv M bs, ScpAt w sb mb bv M bs ρ nm bl

theorem Turns.refl (w : World) (ρ : Nat → Option Role) : Turns w w ρ := ⟨rfl, rfl, rfl, Nat.le_refl _, fun _ _ _ => rfl⟩
theorem Turns.trans {w w1 w2 : World} {ρ ρ1 : Nat → Option Role} (h : Turns w w1 ρ) (h' : Turns w1 w2 ρ1) (hr : ∀ k, ρ1 k ≠ none → ρ k ≠ none ∨ w.heap.size ≤ k) : Turns w w2 ρ :=
  ⟨h'.os.trans h.os, h'.tape.trans h.tape, h'.output.trans h.output, Nat.le_trans h.size h'.size, fun k hk hn => by
    rw [h'.block k (Nat.lt_of_lt_of_le hk h.size) ?_, h.block k hk hn]
    cases hq : ρ1 k with
    | none => rfl
    | some r => rcases hr k (by rw [hq]; simp) with h1 | h1
                · exact (h1 hn).elim
                · omega⟩

/-- From w, with the scope's blocks ρ, to w', with ρ'. -/
structure Moves (w w' : World) (ρ ρ' : Nat → Option Role) : Prop where
  turns : Turns w w' ρ
  old : ∀ k, ρ' k ≠ none → ρ k ≠ none ∨ w.heap.size ≤ k

theorem Moves.refl (w : World) (ρ : Nat → Option Role) : Moves w w ρ ρ := ⟨Turns.refl w ρ, fun _ h => .inl h⟩
theorem Moves.trans {w w1 w2 : World} {ρ ρ1 ρ2 : Nat → Option Role} (h : Moves w w1 ρ ρ1) (h' : Moves w1 w2 ρ1 ρ2) : Moves w w2 ρ ρ2 :=
  ⟨h.turns.trans h'.turns h.old, fun k hk => by
    rcases h'.old k hk with h1 | h1
    · exact h.old k h1
    · exact .inr (Nat.le_trans h.turns.size h1)⟩

/-- What a call leaves: the scope reads as nm', bl'; what is not of it is as it was. -/
def Goes (w : World) (sb : Nat) (ρ : Nat → Option Role) (nm' : ByteArray → List (Nat × Bool)) (bl' : List (List ByteArray)) (w' : World) : Prop :=
  ∃ ρ', Sc w' sb ρ' nm' bl' ∧ Moves w w' ρ ρ'

theorem moves_if {w w' : World} {ρ : Nat → Option Role} (h : Turns w w' ρ) (g1 : Nat) (r : Role) (hat : ρ g1 ≠ none ∨ w.heap.size ≤ g1) : Moves w w' ρ (fun k => if k = g1 then some r else ρ k) :=
  ⟨h, fun k hk => by
    by_cases e : k = g1
    · rw [e]; exact hat
    · simp only [if_neg e] at hk
      exact .inl hk⟩

theorem cellAdd (g m : Nat) : (⟨g, 0, none⟩ : Addr).add m = ⟨g, m, none⟩ := by unfold Addr.add; split <;> simp_all

theorem drew_heap (w : World) : w.drew.heap = w.heap := rfl

/-- What the first region of Declare leaves: the marks are appended to and stored in the map. -/
theorem declare_reg {w : World} {sb mb bv M bs ρ nm bl} (h : ScpAt w sb mb bv M bs ρ nm bl) (s : ByteArray) (hs : s.size ≤ maxLen) (n : Nat) (L1 : List (Nat × Bool)) (v : Value) (hv : (M s).getD (.slice none 0 0) = v) (o : Obj) (g1 cap1 : Nat) (w1 : World)
    (hown : w1.ownsRow 0 48 2 (.slice (some ⟨g1, 0, none⟩) n cap1) n (cellsM L1)) (hL : L1.length = n)
    (hg : (w.alloc o).drew.grownBy w1 v.ownBlock) (hat : v.ownBlock = some g1 ∨ g1 = w.heap.size + 1) (hlt : g1 < w1.heap.size) :
    w1.cell? ⟨sb, 0, none⟩ = some (.map (some mb)) ∧ ∃ w2, (Instr.mapUpdate 40 (.map (some mb)) (.string s) (.slice (some ⟨g1, 0, none⟩) n cap1)).run Try.prog w1 = .ok () w2 ∧
      ScpAt w2 sb mb bv (upd M s (.slice (some ⟨g1, 0, none⟩) n cap1)) bs (fun k => if k = g1 then some (.ent s) else ρ k) (fun k => if k = s then L1 else nm k) bl ∧
      Moves w w2 ρ (fun k => if k = g1 then some (.ent s) else ρ k) := by
  subst hv
  have hsz1 : w.heap.size + 1 ≤ w1.heap.size := by have := hg.size; simpa using this
  have hb1 : ∀ k, k < w.heap.size → ((M s).getD (.slice none 0 0)).ownBlock ≠ some k → w1.heap[k]? = w.heap[k]? := fun k hk hne => by
    rw [hg.block k (by simp; omega) (fun e => hne e.symm), drew_heap]
    exact heap_alloc_old w o hk
  have hsv : ((M s).getD (.slice none 0 0)).ownBlock ≠ some sb := fun e => by have := h.roleE s sb e; rw [h.ρs] at this; simp at this
  have hmv : ((M s).getD (.slice none 0 0)).ownBlock ≠ some mb := fun e => by have := h.roleE s mb e; rw [h.ρm] at this; simp at this
  have hsl : sb < w.heap.size := h.lt sb (by rw [h.ρs]; simp)
  have hml : mb < w.heap.size := h.lt mb (by rw [h.ρm]; simp)
  have hM1 : MapIs w1 mb M := h.map.of_block (hb1 mb hml hmv)
  obtain ⟨w2, hrun, hM2, hg2, hsz2⟩ := hM1.update s hs (.slice (some ⟨g1, 0, none⟩) n cap1)
  have hg1m : g1 ≠ mb := by
    rintro rfl
    rcases hat with e | e
    · exact hmv e
    · omega
  have hb2 : ∀ k, k < w.heap.size → ((M s).getD (.slice none 0 0)).ownBlock ≠ some k → k ≠ mb → w2.heap[k]? = w.heap[k]? := fun k hk h1 h2 => by
    rw [hg2.block k (by omega) (by simp [h2]), hb1 k hk h1]
  have hown2 : w2.ownsRow 0 48 2 (.slice (some ⟨g1, 0, none⟩) n cap1) L1.length (cellsM L1) := by
    rw [hL]
    exact ownsRow_of_block hown fun g hgg => by
      have : g1 = g := by simpa [Value.ownBlock] using hgg
      subst this
      exact hg2.block g1 hlt (by simp [hg1m])
  refine ⟨by rw [World.cell?_of_block (w := w) (hb1 sb hsl hsv)]; exact h.c0, w2, hrun, h.setEnt s g1 n cap1 L1 hb2 hM2 hown2 (hat.imp id (by omega)) (by omega) (by omega), ?_⟩
  refine moves_if ?_ g1 _ (hat.imp (fun e => by rw [h.roleE s g1 e]; simp) (by omega))
  refine ⟨hg2.os.trans hg.os, hg2.tape.trans hg.tape, hg2.output.trans hg.output, by omega, fun k hk hr => hb2 k hk ?_ ?_⟩
  · intro e; have := h.roleE s k e; rw [hr] at this; cases this
  · rintro rfl; rw [h.ρm] at hr; cases hr

/-- What the second region of Declare leaves. -/
theorem declare_reg2 {w : World} {sb mb bv M bs ρ nm bl} (h : ScpAt w sb mb bv M bs ρ nm bl) (m gb : Nat) (hgb : bv.ownBlock = some gb) (u : Value) (hu : bs[m]? = some u) (n : Nat) (L1 : List ByteArray) (o : Obj) (g1 cap1 : Nat) (w1 : World)
    (hown : w1.ownsRow 0 9 1 (.slice (some ⟨g1, 0, none⟩) n cap1) n (L1.map .string)) (hL : L1.length = n)
    (hg : (w.alloc o).drew.grownBy w1 u.ownBlock) (hat : u.ownBlock = some g1 ∨ g1 = w.heap.size + 1) (hlt : g1 < w1.heap.size) :
    w1.cell? ⟨sb, 1, none⟩ = some bv ∧ w1.cell? ⟨gb, m, none⟩ = some u ∧ w1.frozen? ⟨gb, m, none⟩ = false ∧
      ScpAt (w1.setCell ⟨gb, m, none⟩ (.slice (some ⟨g1, 0, none⟩) n cap1)) sb mb bv M (bs.set m (.slice (some ⟨g1, 0, none⟩) n cap1)) (fun k => if k = g1 then some (.blk m) else ρ k) nm (bl.set m L1) ∧
      Moves w (w1.setCell ⟨gb, m, none⟩ (.slice (some ⟨g1, 0, none⟩) n cap1)) ρ (fun k => if k = g1 then some (.blk m) else ρ k) := by
  have hm : m < bs.length := (List.getElem?_eq_some_iff.1 hu).1
  have hsz1 : w.heap.size + 1 ≤ w1.heap.size := by have := hg.size; simpa using this
  have hb1 : ∀ k, k < w.heap.size → u.ownBlock ≠ some k → w1.heap[k]? = w.heap[k]? := fun k hk hne => by
    rw [hg.block k (by simp; omega) (fun e => hne e.symm), drew_heap]
    exact heap_alloc_old w o hk
  have hsv : u.ownBlock ≠ some sb := fun e => by have := h.ρl m u sb hu e; rw [h.ρs] at this; simp at this
  have hbv : u.ownBlock ≠ some gb := fun e => by have := h.ρl m u gb hu e; rw [h.ρb gb hgb] at this; simp at this
  have hsl : sb < w.heap.size := h.lt sb (by rw [h.ρs]; simp)
  have hbl : gb < w.heap.size := h.lt gb (by rw [h.ρb gb hgb]; simp)
  have hg1b : g1 ≠ gb := by
    rintro rfl
    rcases hat with e | e
    · exact hbv e
    · omega
  have hsize : (w1.setCell ⟨gb, m, none⟩ (.slice (some ⟨g1, 0, none⟩) n cap1)).heap.size = w1.heap.size := by simp [World.setCell]
  have hb2 : ∀ k, k < w.heap.size → u.ownBlock ≠ some k → bv.ownBlock ≠ some k → (w1.setCell ⟨gb, m, none⟩ (.slice (some ⟨g1, 0, none⟩) n cap1)).heap[k]? = w.heap[k]? := fun k hk h1 h2 => by
    rw [Below.heap_setCell _ _ _ _ (by rintro rfl; exact h2 hgb), hb1 k hk h1]
  -- the row of blocks
  obtain ⟨g, cap, cur, rfl, hrow, hcap, hcm, hsz, htake⟩ : ∃ g cap cur, bv = .slice (some ⟨g, 0, none⟩) bs.length cap ∧ w.heap[g]? = some (.cells cur 49 (0, 0)) ∧ bs.length ≤ cap ∧ cap ≤ maxLen ∧ cur.size = cap * 1 ∧ cur.toList.take (bs.length * 1) = bs := by
    rcases h.rb.2 with ⟨e, _⟩ | ⟨g, cap, cur, e1, _, e3, e4, e5, e6, e7⟩
    · rw [e] at hgb; cases hgb
    · exact ⟨g, cap, cur, e1, e3, e4, e5, e6, e7⟩
  obtain rfl : g = gb := by simpa [Value.ownBlock] using hgb
  have hrow1 : w1.heap[g]? = some (.cells cur 49 (0, 0)) := (hb1 g hbl hbv).trans hrow
  have hrow2 : (w1.setCell ⟨g, m, none⟩ (.slice (some ⟨g1, 0, none⟩) n cap1)).heap[g]? = some (.cells (cur.setIfInBounds m (.slice (some ⟨g1, 0, none⟩) n cap1)) 49 (0, 0)) := by
    simp [World.setCell, Array.getElem?_modify, hrow1]
  have hrb : (w1.setCell ⟨g, m, none⟩ (.slice (some ⟨g1, 0, none⟩) n cap1)).ownsRow 0 49 1 (.slice (some ⟨g, 0, none⟩) bs.length cap) bs.length (bs.set m (.slice (some ⟨g1, 0, none⟩) n cap1)) := by
    refine ⟨by simp, .inr ⟨g, cap, _, rfl, Nat.zero_le _, hrow2, hcap, hcm, by simpa using hsz, ?_⟩⟩
    rw [Array.toList_setIfInBounds, List.take_set, htake]
  have hown2 : (w1.setCell ⟨g, m, none⟩ (.slice (some ⟨g1, 0, none⟩) n cap1)).ownsRow 0 9 1 (.slice (some ⟨g1, 0, none⟩) n cap1) L1.length (L1.map .string) := by
    rw [hL]
    exact ownsRow_of_block hown fun k hk => by
      have : g1 = k := by simpa [Value.ownBlock] using hk
      subst this
      exact Below.heap_setCell _ _ _ _ hg1b
  refine ⟨by rw [World.cell?_of_block (w := w) (hb1 sb hsl hsv)]; exact h.c1, ?_, by simp [World.frozen?, hrow1], h.setBlk m u hu g1 n cap1 L1 hb2 hrb hown2 (hat.imp id (by omega)) (by omega) (by omega), ?_⟩
  · have := h.rb.cells (g := g) rfl m u hu
    rw [cellAdd] at this
    rw [World.cell?_of_block (w := w) (hb1 g hbl hbv)]
    exact this
  · refine moves_if ?_ g1 _ (hat.imp (fun e => by rw [h.ρl m u g1 hu e]; simp) (by omega))
    refine ⟨hg.os, hg.tape, hg.output, by omega, fun k hk hr => hb2 k hk ?_ ?_⟩
    · intro e; have := h.ρl m u k hu e; rw [hr] at this; cases this
    · intro e; have := h.ρb k e; rw [hr] at this; cases this

end Go.Proofs.Ytanblanoaahcfaa
