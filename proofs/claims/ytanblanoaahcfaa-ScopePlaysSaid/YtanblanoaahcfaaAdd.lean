/-
  A scope in memory stays one when a name or a block is added in new memory.
-/
import Derived.Test.YtanblanoaahcfaaRange
namespace Go.Proofs.Ytanblanoaahcfaa
open Go.RowKit Go.ChangeMaps Go.MapKept Go.WideMaps

/-- The marks of one name are set to a slice that lies in new memory. -/
theorem ScpAt.addEnt {w w2 : World} {sb mb bv M bs ρ nm bl} (h : ScpAt w sb mb bv M bs ρ nm bl) (s : ByteArray) (v : Value) (L : List (Nat × Bool))
    (hb : ∀ k, k < w.heap.size → k ≠ mb → w2.heap[k]? = w.heap[k]?)
    (hM2 : MapIs w2 mb (upd M s v)) (hown : w2.ownsRow 0 48 2 v L.length (cellsM L))
    (hnew : ∀ g, v.ownBlock = some g → w.heap.size ≤ g ∧ g < w2.heap.size) (hsz : w.heap.size ≤ w2.heap.size) :
    ScpAt w2 sb mb bv (upd M s v) bs (fun k => if v.ownBlock = some k then some (.ent s) else ρ k) (fun k => if k = s then L else nm k) bl := by
  have keep : ∀ k r, ρ k = some r → r ≠ .map → w2.heap[k]? = w.heap[k]? := by
    intro k r hr h2
    refine hb k (h.lt k (by rw [hr]; simp)) ?_
    rintro rfl
    rw [h.ρm] at hr
    exact h2 (by simpa using hr.symm)
  have nog : ∀ k r, ρ k = some r → v.ownBlock ≠ some k := fun k r hr e => by
    have := h.lt k (by rw [hr]; simp)
    have := (hnew k e).1
    omega
  refine ⟨(keep sb .str h.ρs (by simp)).trans h.str, hM2, ownsRow_of_block h.rb (fun g hg => keep g .bv (h.ρb g hg) (by simp)), h.len, ?_, ?_, ?_, ?_, ?_, ?_, ?_, ?_, ?_⟩
  · intro s' u hu
    by_cases e : s' = s
    · subst e
      simp only [upd, if_true] at hu ⊢
      cases hu
      exact hown
    · simp only [upd, if_neg e] at hu ⊢
      exact ownsRow_of_block (h.re s' u hu) fun g hg => keep g _ (h.ρe s' u g hu hg) (by simp)
  · intro s' hu
    by_cases e : s' = s
    · simp [upd, e] at hu
    · simp only [upd, if_neg e] at hu ⊢
      exact h.rn s' hu
  · intro i u l hu hl
    exact ownsRow_of_block (h.rl i u l hu hl) fun g hg => keep g _ (h.ρl i u g hu hg) (by simp)
  · simp only [if_neg (nog sb _ h.ρs)]; exact h.ρs
  · simp only [if_neg (nog mb _ h.ρm)]; exact h.ρm
  · intro g hg
    simp only [if_neg (nog g _ (h.ρb g hg))]; exact h.ρb g hg
  · intro s' u g hu hg
    by_cases e : s' = s
    · subst e
      simp only [upd, if_true] at hu
      cases hu
      simp [hg]
    · simp only [upd, if_neg e] at hu
      simp only [if_neg (nog g _ (h.ρe s' u g hu hg))]
      exact h.ρe s' u g hu hg
  · intro i u g hu hg
    simp only [if_neg (nog g _ (h.ρl i u g hu hg))]
    exact h.ρl i u g hu hg
  · intro k hk
    by_cases e : v.ownBlock = some k
    · exact (hnew k e).2
    · simp only [if_neg e] at hk
      exact Nat.lt_of_lt_of_le (h.lt k hk) hsz

/-- A block more at the end: its names' slice lies in new memory. -/
theorem ScpAt.addBlk {w w2 : World} {sb mb bv M bs ρ nm bl} (h : ScpAt w sb mb bv M bs ρ nm bl) (u : Value) (L : List ByteArray) (g1 n1 c1 : Nat)
    (hstr : w2.heap[sb]? = some (.cells #[.map (some mb), .slice (some ⟨g1, 0, none⟩) n1 c1] 43 (0, 0)))
    (hb : ∀ k, k < w.heap.size → bv.ownBlock ≠ some k → k ≠ sb → w2.heap[k]? = w.heap[k]?)
    (hrb : w2.ownsRow 0 49 1 (.slice (some ⟨g1, 0, none⟩) n1 c1) (bs.length + 1) (bs ++ [u]))
    (hu : w2.ownsRow 0 9 1 u L.length (L.map .string)) (hun : ∀ g, u.ownBlock = some g → w.heap.size ≤ g ∧ g < w2.heap.size ∧ g ≠ g1)
    (hat : bv.ownBlock = some g1 ∨ w.heap.size ≤ g1) (hlt : g1 < w2.heap.size) (hsz : w.heap.size ≤ w2.heap.size) :
    ScpAt w2 sb mb (.slice (some ⟨g1, 0, none⟩) n1 c1) M (bs ++ [u]) (fun k => if k = g1 then some .bv else if u.ownBlock = some k then some (.blk bs.length) else ρ k) nm (bl ++ [L]) := by
  have kk : ∀ k r, ρ k = some r → r ≠ .bv → r ≠ .str → w2.heap[k]? = w.heap[k]? := by
    intro k r hr h1 h2
    refine hb k (h.lt k (by rw [hr]; simp)) ?_ ?_
    · intro e
      have := h.ρb k e
      rw [hr] at this
      exact h1 (by simpa using this)
    · rintro rfl
      rw [h.ρs] at hr
      exact h2 (by simpa using hr.symm)
  have nog : ∀ k r, ρ k = some r → r ≠ .bv → k ≠ g1 ∧ u.ownBlock ≠ some k := by
    intro k r hr h1
    have hkl := h.lt k (by rw [hr]; simp)
    refine ⟨?_, fun e => by have := (hun k e).1; omega⟩
    rintro rfl
    rcases hat with e | e
    · have := h.ρb k e
      rw [hr] at this
      exact h1 (by simpa using this)
    · omega
  have same : ∀ k r, ρ k = some r → r ≠ .bv → (if k = g1 then some .bv else if u.ownBlock = some k then some (.blk bs.length) else ρ k) = some r := by
    intro k r hr h1
    rw [if_neg (nog k r hr h1).1, if_neg (nog k r hr h1).2]
    exact hr
  refine ⟨hstr, h.map.of_block (kk mb .map h.ρm (by simp) (by simp)), by simpa using hrb, by simp [h.len], ?_, h.rn, ?_, same sb _ h.ρs (by simp), same mb _ h.ρm (by simp), ?_, ?_, ?_, ?_⟩
  · intro s v hv
    exact ownsRow_of_block (h.re s v hv) fun g hg => kk g _ (h.ρe s v g hv hg) (by simp) (by simp)
  · intro i v l hv hl
    rw [List.getElem?_append] at hv hl
    rw [h.len] at hv
    by_cases e : i < bl.length
    · rw [if_pos e] at hv hl
      exact ownsRow_of_block (h.rl i v l hv hl) fun g hg => kk g _ (h.ρl i v g hv hg) (by simp) (by simp)
    · rw [if_neg e] at hv hl
      rcases hi : i - bl.length with _ | j
      · rw [hi] at hv hl; simp at hv hl; subst hv; subst hl; exact hu
      · rw [hi] at hv; simp at hv
  · intro g hg
    have : g1 = g := by simpa [Value.ownBlock] using hg
    simp [this]
  · intro s v g hv hg
    exact same g _ (h.ρe s v g hv hg) (by simp)
  · intro i v g hv hg
    rw [List.getElem?_append] at hv
    by_cases e : i < bs.length
    · rw [if_pos e] at hv
      exact same g _ (h.ρl i v g hv hg) (by simp)
    · rw [if_neg e] at hv
      rcases hi : i - bs.length with _ | j
      · rw [hi] at hv; simp at hv; subst hv
        have : i = bs.length := by omega
        subst this
        simp only [if_neg (hun g hg).2.2, hg, if_true]
      · rw [hi] at hv; simp at hv
  · intro k hk
    by_cases e : k = g1
    · rw [e]; exact hlt
    · simp only [if_neg e] at hk
      by_cases e2 : u.ownBlock = some k
      · exact (hun k e2).2.1
      · simp only [if_neg e2] at hk
        exact Nat.lt_of_lt_of_le (h.lt k hk) hsz

end Go.Proofs.Ytanblanoaahcfaa
