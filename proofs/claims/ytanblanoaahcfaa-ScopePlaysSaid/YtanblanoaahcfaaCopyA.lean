/-
  What a copy under way is, and how a name and a block are added to it.
-/
import Derived.Test.YtanblanoaahcfaaAdd
namespace Go.Proofs.Ytanblanoaahcfaa
open Go.RowKit Go.ChangeMaps Go.MapKept Go.WideMaps

/-- The copy under way: its names that have come (those that are not left), its first i blocks; all in memory from B on. -/
def Copying (W wr : World) (sb2 mb2 r : Nat) (nm : ByteArray → List (Nat × Bool)) (bl : List (List ByteArray)) (left : ByteArray → Bool) (i : Nat) : Prop :=
  Below W.heap.size W wr ∧ r < wr.heap.size ∧ ∃ bv2 M2 bs2 ρ2, ScpAt wr sb2 mb2 bv2 M2 bs2 ρ2 (fun s => if left s = true then [] else nm s) (bl.take i) ∧ (∀ k, ρ2 k ≠ none → W.heap.size ≤ k ∧ k ≠ r)

theorem Copying.c0 {W wr : World} {sb2 mb2 r nm bl left i} (h : Copying W wr sb2 mb2 r nm bl left i) : wr.cell? ⟨sb2, 0, none⟩ = some (.map (some mb2)) := by
  obtain ⟨_, _, bv2, M2, bs2, ρ2, h, _⟩ := h
  exact h.c0

theorem Copying.sb_lt {W wr : World} {sb2 mb2 r nm bl left i} (h : Copying W wr sb2 mb2 r nm bl left i) : sb2 < wr.heap.size := by
  obtain ⟨_, _, bv2, M2, bs2, ρ2, h, _⟩ := h
  exact h.lt sb2 (by rw [h.ρs]; simp)

/-- Blocks beside the copy's own turn: the iterator's. -/
theorem Copying.other {W wr w1 : World} {sb2 mb2 r nm bl left i} (h : Copying W wr sb2 mb2 r nm bl left i) (hrW : W.heap.size ≤ r) (hg : wr.grownBy w1 (some r)) : Copying W w1 sb2 mb2 r nm bl left i := by
  obtain ⟨hb, hr, bv2, M2, bs2, ρ2, h, hk⟩ := h
  refine ⟨hb.grown hg hb.size (fun k e => by cases e; exact hrW), Nat.lt_of_lt_of_le hr hg.size, bv2, M2, bs2, ρ2, h.frame hg.size (fun k hk' => hg.block k (h.lt k hk') (by have := (hk k hk').2; simp [this])), hk⟩

/-- A name has come. -/
theorem Copying.ent {W w1 wc : World} {sb2 mb2 r nm bl left i} (h : Copying W w1 sb2 mb2 r nm bl left i) (s : ByteArray) (hs : s.size ≤ maxLen) (v : Value)
    (hcl : Cloned w1 48 2 (nm s).length (cellsM (nm s)) v wc) :
    wc.cell? ⟨sb2, 0, none⟩ = some (.map (some mb2)) ∧ ∃ wu, (Instr.mapUpdate 40 (.map (some mb2)) (.string s) v).run Try.prog wc = .ok () wu ∧
      Copying W wu sb2 mb2 r nm bl (fun x => left x && !decide (x = s)) i ∧ wu.cell? ⟨sb2, 0, none⟩ = some (.map (some mb2)) ∧ ∀ k, k < w1.heap.size → k ≠ mb2 → wu.heap[k]? = w1.heap[k]? := by
  obtain ⟨hb, hr, bv2, M2, bs2, ρ2, h, hk⟩ := h
  obtain ⟨hown, hbc⟩ := hcl
  have hm2 : mb2 < w1.heap.size := h.lt mb2 (by rw [h.ρm]; simp)
  have hs2 : sb2 < w1.heap.size := h.lt sb2 (by rw [h.ρs]; simp)
  have hm2W : W.heap.size ≤ mb2 := (hk mb2 (by rw [h.ρm]; simp)).1
  have hM1 : MapIs wc mb2 M2 := h.map.of_block (hbc.block mb2 hm2)
  obtain ⟨wu, hrun, hM2, hg2, hsz2⟩ := hM1.update s hs v
  have hblk : ∀ k, k < w1.heap.size → k ≠ mb2 → wu.heap[k]? = w1.heap[k]? := fun k hk1 hne => by
    rw [hg2.block k (Nat.lt_of_lt_of_le hk1 hbc.size) (by simp [hne]), hbc.block k hk1]
  have hownB : ∀ g, v.ownBlock = some g → w1.heap.size ≤ g ∧ g < wu.heap.size := fun g hg => by
    have := hown.lt g hg
    omega
  have hS := h.addEnt s v (nm s) hblk hM2 (ownsRow_of_block (ownsRow_base hown (Nat.zero_le _)) fun g hg => hg2.block g (by have := hown.lt g hg; omega) (by have := hown.lt g hg; simp; omega)) hownB (by have := hbc.size; omega)
  refine ⟨by rw [World.cell?_of_block (w := w1) (hbc.block sb2 hs2)]; exact h.c0, wu, hrun, ⟨?_, by have := hbc.size; omega, bv2, upd M2 s v, bs2, (fun k => if v.ownBlock = some k then some (.ent s) else ρ2 k), ?_, ?_⟩, hS.c0, hblk⟩
  · exact (hb.trans (hbc.mono hb.size)).grown hg2 (by have := hbc.size; have := hb.size; omega) (fun k e => by cases e; exact hm2W)
  · have : (fun k => if k = s then nm s else (if left k = true then [] else nm k)) = (fun k => if (left k && !decide (k = s)) = true then [] else nm k) := by
      funext k
      by_cases e : k = s
      · simp [e]
      · simp [e]
    rw [← this]
    exact hS
  · intro k hk'
    by_cases e : v.ownBlock = some k
    · have := (hownB k e).1
      have := hb.size
      omega
    · simp only [if_neg e] at hk'
      exact hk k hk'

theorem Copying.names {W wr : World} {sb2 mb2 r nm bl left i} (h : Copying W wr sb2 mb2 r nm bl left i) (hl : ∀ s, left s = false) : Copying W wr sb2 mb2 r nm bl (fun _ => false) i := by
  obtain rfl : left = fun _ => false := funext hl
  exact h

/-- What a round of the second loop needs to know of the struct's second cell. -/
def CopyBv (wr : World) (sb2 : Nat) (bv : Value) (i : Nat) (bs : List Value) : Prop := wr.cell? ⟨sb2, 1, none⟩ = some bv ∧ wr.frozen? ⟨sb2, 1, none⟩ = false ∧ wr.ownsRow 0 49 1 bv i bs

theorem Copying.bv {W wr : World} {sb2 mb2 r nm bl left i} (h : Copying W wr sb2 mb2 r nm bl left i) (hi : i ≤ bl.length) : ∃ a c bs, CopyBv wr sb2 (.slice a i c) i bs := by
  obtain ⟨hb, hr, bv2, M2, bs2, ρ2, h, hk⟩ := h
  obtain ⟨a, c, rfl, _⟩ := ownsRow_slice h.rb
  have hlen : bs2.length = i := by rw [h.len]; simp; omega
  refine ⟨a, c, bs2, by rw [← hlen]; exact h.c1, h.f1, ?_⟩
  rw [← hlen]
  exact h.rb

/-- A block has come. -/
theorem Copying.blk {W w1 wc w2 : World} {sb2 mb2 r nm bl left i} (h : Copying W w1 sb2 mb2 r nm bl left i) (hi : i < bl.length) (l : List ByteArray) (hl : bl[i]? = some l) (u : Value) (bv : Value) (bs : List Value) (hbv : CopyBv w1 sb2 bv i bs)
    (hcl : Cloned w1 9 1 l.length (l.map .string) u wc) (o : Obj) (g1 c1 : Nat)
    (hown : w2.ownsRow 0 49 1 (.slice (some ⟨g1, 0, none⟩) (i + 1) c1) (i + 1) (bs ++ [u])) (hg : (wc.alloc o).grownBy w2 bv.ownBlock) (hat : bv.ownBlock = some g1 ∨ g1 = wc.heap.size + 1) (hlt : g1 < w2.heap.size) :
    w2.cell? ⟨sb2, 1, none⟩ = some bv ∧ w2.frozen? ⟨sb2, 1, none⟩ = false ∧ Copying W (w2.setCell ⟨sb2, 1, none⟩ (.slice (some ⟨g1, 0, none⟩) (i + 1) c1)) sb2 mb2 r nm bl left (i + 1) := by
  obtain ⟨hb, hr, bv2, M2, bs2, ρ2, h, hk⟩ := h
  obtain ⟨hc1, _, hrow⟩ := hbv
  obtain rfl : bv2 = bv := by have := h.c1; rw [hc1] at this; cases this; rfl
  have hlen : bs2.length = i := by rw [h.len]; simp; omega
  obtain rfl : bs2 = bs := by
    have hr2 := h.rb
    rw [hlen] at hr2
    rcases hr2.2 with ⟨_, e0⟩ | ⟨g, cap, cur, e1, _, e3, _, _, _, e7⟩
    · have a1 : bs2 = [] := List.eq_nil_of_length_eq_zero (by omega)
      have a2 : bs = [] := List.eq_nil_of_length_eq_zero (by have := hrow.1; omega)
      rw [a1, a2]
    · rcases hrow.2 with ⟨e2, _⟩ | ⟨g', cap', cur', e1', _, e3', _, _, _, e7'⟩
      · rw [e1] at e2; cases e2
      · rw [e1] at e1'
        simp only [Value.slice.injEq, Option.some.injEq, Addr.mk.injEq] at e1'
        obtain ⟨⟨rfl, _⟩, _⟩ := e1'
        rw [e3] at e3'
        cases e3'
        rw [← e7, ← e7']
  obtain ⟨hownu, hbc⟩ := hcl
  have hsz2 : wc.heap.size + 1 ≤ w2.heap.size := by have := hg.size; simpa using this
  have hszc := hbc.size
  have hs2 : sb2 < w1.heap.size := h.lt sb2 (by rw [h.ρs]; simp)
  have hs2W : W.heap.size ≤ sb2 := (hk sb2 (by rw [h.ρs]; simp)).1
  have hsv : bv2.ownBlock ≠ some sb2 := fun e => by have := h.ρb sb2 e; rw [h.ρs] at this; simp at this
  have hb1 : ∀ k, k < w1.heap.size → bv2.ownBlock ≠ some k → w2.heap[k]? = w1.heap[k]? := fun k hk1 hne => by
    rw [hg.block k (by simp; omega) (fun e => hne e.symm), heap_alloc_old _ _ (Nat.lt_of_lt_of_le hk1 hszc)]
    exact hbc.block k hk1
  have hstr : w2.heap[sb2]? = some (.cells #[.map (some mb2), bv2] 43 (0, 0)) := (hb1 sb2 hs2 hsv).trans h.str
  have hsize : (w2.setCell ⟨sb2, 1, none⟩ (.slice (some ⟨g1, 0, none⟩) (i + 1) c1)).heap.size = w2.heap.size := by simp [World.setCell]
  have hun : ∀ g, u.ownBlock = some g → w1.heap.size ≤ g ∧ g < wc.heap.size := hownu.lt
  have hbvlt : ∀ g, bv2.ownBlock = some g → g < w1.heap.size := fun g hg => h.lt g (by rw [h.ρb g hg]; simp)
  have hg1s : g1 ≠ sb2 := by
    rintro rfl
    rcases hat with e | e
    · exact hsv e
    · omega
  have hS := h.addBlk (w2 := w2.setCell ⟨sb2, 1, none⟩ (.slice (some ⟨g1, 0, none⟩) (i + 1) c1)) u l g1 (i + 1) c1 (by simp [World.setCell, Array.getElem?_modify, hstr])
    (fun k hk1 h1 h2 => by rw [Below.heap_setCell _ _ _ _ h2]; exact hb1 k hk1 h1)
    (by
      rw [hlen]
      exact ownsRow_of_block hown fun k hk => by
        have : g1 = k := by simpa [Value.ownBlock] using hk
        subst this
        exact Below.heap_setCell _ _ _ _ hg1s)
    (ownsRow_of_block (ownsRow_base hownu (Nat.zero_le _)) fun g hgu => by
      have := hun g hgu
      rw [Below.heap_setCell _ _ _ _ (by show g ≠ sb2; omega), hg.block g (by simp; omega) (fun e => by have := hbvlt g e.symm; omega), heap_alloc_old _ _ (by omega)])
    (fun g hgu => by
      have := hun g hgu
      refine ⟨by omega, by omega, ?_⟩
      rintro rfl
      rcases hat with e | e
      · have := hbvlt g e; omega
      · omega)
    (hat.imp id (by omega)) (by omega) (by omega)
  refine ⟨by simp [World.cell?, hstr], by simp [World.frozen?, hstr], ⟨?_, by omega, .slice (some ⟨g1, 0, none⟩) (i + 1) c1, M2, bs2 ++ [u], (fun k => if k = g1 then some .bv else if u.ownBlock = some k then some (.blk bs2.length) else ρ2 k), ?_, ?_⟩⟩
  · refine ((hb.trans (hbc.mono hb.size)).alloc (by have := hb.size; omega) o |>.grown hg (by have := hb.size; simp; omega) (fun k e => ?_)).setCell hs2W _
    exact (hk k (by rw [h.ρb k e]; simp)).1
  · have : bl.take (i + 1) = bl.take i ++ [l] := by
      rw [List.take_add_one, hl]; rfl
    rw [this]
    exact hS
  · intro k hk'
    by_cases e : k = g1
    · subst e
      rcases hat with e | e
      · exact hk k (by rw [h.ρb k e]; simp)
      · have := hb.size; omega
    · simp only [if_neg e] at hk'
      by_cases e2 : u.ownBlock = some k
      · have := hun k e2
        have := hb.size
        omega
      · simp only [if_neg e2] at hk'
        exact hk k hk'
end Go.Proofs.Ytanblanoaahcfaa
