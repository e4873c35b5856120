/-
  A scope in memory stays one when the marks of a name, the names of a block, or the slice of blocks are set anew.
-/
import Derived.Test.YtanblanoaahcfaaRead
namespace Go.Proofs.Ytanblanoaahcfaa
open Go.RowKit Go.ChangeMaps Go.MapKept Go.WideMaps

theorem ScpAt.row {w : World} {sb mb bv M bs ρ nm bl} (h : ScpAt w sb mb bv M bs ρ nm bl) (s : ByteArray) : w.ownsRow 0 48 2 ((M s).getD (.slice none 0 0)) (nm s).length (cellsM (nm s)) := by
  cases hM : M s with
  | none => rw [h.rn s hM]; exact World.ownsRow_nil w 0 48 2
  | some v => exact h.re s v hM

/-- The role of the slice at a name. -/
theorem ScpAt.roleE {w : World} {sb mb bv M bs ρ nm bl} (h : ScpAt w sb mb bv M bs ρ nm bl) (s : ByteArray) (g : Nat) (hg : ((M s).getD (.slice none 0 0)).ownBlock = some g) : ρ g = some (.ent s) := by
  cases hM : M s with
  | none => rw [hM] at hg; cases hg
  | some v => rw [hM] at hg; exact h.ρe s v g hM hg

/-- The marks of one name are set anew. -/
theorem ScpAt.setEnt {w w2 : World} {sb mb bv M bs ρ nm bl} (h : ScpAt w sb mb bv M bs ρ nm bl) (s : ByteArray) (g1 n1 c1 : Nat) (L : List (Nat × Bool))
    (hb : ∀ k, k < w.heap.size → ((M s).getD (.slice none 0 0)).ownBlock ≠ some k → k ≠ mb → w2.heap[k]? = w.heap[k]?)
    (hM2 : MapIs w2 mb (upd M s (.slice (some ⟨g1, 0, none⟩) n1 c1)))
    (hown : w2.ownsRow 0 48 2 (.slice (some ⟨g1, 0, none⟩) n1 c1) L.length (cellsM L))
    (hat : ((M s).getD (.slice none 0 0)).ownBlock = some g1 ∨ w.heap.size ≤ g1) (hlt : g1 < w2.heap.size) (hsz : w.heap.size ≤ w2.heap.size) :
    ScpAt w2 sb mb bv (upd M s (.slice (some ⟨g1, 0, none⟩) n1 c1)) bs (fun k => if k = g1 then some (.ent s) else ρ k) (fun k => if k = s then L else nm k) bl := by
  -- a block of another role lies as it lay
  have keep : ∀ k r, ρ k = some r → (∀ hh : r = .ent s, False) → r ≠ .map → w2.heap[k]? = w.heap[k]? ∧ k ≠ g1 := by
    intro k r hr h1 h2
    have hk : k < w.heap.size := h.lt k (by rw [hr]; simp)
    refine ⟨hb k hk ?_ ?_, ?_⟩
    · intro e
      have := h.roleE s k e
      rw [hr] at this
      exact h1 (by simpa using this)
    · rintro rfl
      rw [h.ρm] at hr
      exact h2 (by simpa using hr.symm)
    · rintro rfl
      rcases hat with e | e
      · have := h.roleE s k e
        rw [hr] at this
        exact h1 (by simpa using this)
      · omega
  have hmg : mb ≠ g1 := by
    rintro rfl
    rcases hat with e | e
    · have := h.roleE s mb e
      rw [h.ρm] at this
      simp at this
    · have := h.map.lt; omega
  have kb := fun g hg => keep g .bv (h.ρb g hg) (by simp) (by simp)
  have ke := fun s' v g (hs' : s' ≠ s) hv hg => keep g (.ent s') (h.ρe s' v g hv hg) (by simp [hs']) (by simp)
  have kl := fun i v g hv hg => keep g (.blk i) (h.ρl i v g hv hg) (by simp) (by simp)
  have ks := keep sb .str h.ρs (by simp) (by simp)
  refine ⟨ks.1.trans h.str, hM2, ownsRow_of_block h.rb (fun g hg => (kb g hg).1), h.len, ?_, ?_, ?_, ?_, ?_, ?_, ?_, ?_, ?_⟩
  · intro s' v hv
    by_cases e : s' = s
    · subst e
      simp only [upd, if_true] at hv ⊢
      cases hv
      exact hown
    · simp only [upd, if_neg e] at hv ⊢
      exact ownsRow_of_block (h.re s' v hv) fun g hg => (ke s' v g e hv hg).1
  · intro s' hv
    by_cases e : s' = s
    · simp [upd, e] at hv
    · simp only [upd, if_neg e] at hv ⊢
      exact h.rn s' hv
  · intro i v l hv hl
    exact ownsRow_of_block (h.rl i v l hv hl) fun g hg => (kl i v g hv hg).1
  · simp only [if_neg ks.2]; exact h.ρs
  · simp only [if_neg hmg]; exact h.ρm
  · intro g hg
    simp only [if_neg (kb g hg).2]; exact h.ρb g hg
  · intro s' v g hv hg
    by_cases e : s' = s
    · subst e
      simp only [upd, if_true] at hv
      cases hv
      have : g1 = g := by simpa [Value.ownBlock] using hg
      simp [this]
    · simp only [upd, if_neg e] at hv
      simp only [if_neg (ke s' v g e hv hg).2]
      exact h.ρe s' v g hv hg
  · intro i v g hv hg
    simp only [if_neg (kl i v g hv hg).2]
    exact h.ρl i v g hv hg
  · intro k hk
    by_cases e : k = g1
    · rw [e]; exact hlt
    · simp only [if_neg e] at hk
      exact Nat.lt_of_lt_of_le (h.lt k hk) hsz

/-- The names of one block are set anew: its slice is stored in the slice of blocks. -/
theorem ScpAt.setBlk {w w2 : World} {sb mb bv M bs ρ nm bl} (h : ScpAt w sb mb bv M bs ρ nm bl) (i : Nat) (u : Value) (hu : bs[i]? = some u) (g1 n1 c1 : Nat) (L : List ByteArray)
    (hb : ∀ k, k < w.heap.size → u.ownBlock ≠ some k → bv.ownBlock ≠ some k → w2.heap[k]? = w.heap[k]?)
    (hrb : w2.ownsRow 0 49 1 bv bs.length (bs.set i (.slice (some ⟨g1, 0, none⟩) n1 c1)))
    (hown : w2.ownsRow 0 9 1 (.slice (some ⟨g1, 0, none⟩) n1 c1) L.length (L.map .string))
    (hat : u.ownBlock = some g1 ∨ w.heap.size ≤ g1) (hlt : g1 < w2.heap.size) (hsz : w.heap.size ≤ w2.heap.size) :
    ScpAt w2 sb mb bv M (bs.set i (.slice (some ⟨g1, 0, none⟩) n1 c1)) (fun k => if k = g1 then some (.blk i) else ρ k) nm (bl.set i L) := by
  have keep : ∀ k r, ρ k = some r → r ≠ .blk i → w2.heap[k]? = w.heap[k]? ∨ r = .bv := by
    intro k r hr h1
    by_cases h2 : r = .bv
    · exact .inr h2
    have hk : k < w.heap.size := h.lt k (by rw [hr]; simp)
    refine .inl (hb k hk ?_ ?_)
    · intro e
      have := h.ρl i u k hu e
      rw [hr] at this
      exact h1 (by simpa using this)
    · intro e
      have := h.ρb k e
      rw [hr] at this
      exact h2 (by simpa using this)
  have nog : ∀ k r, ρ k = some r → r ≠ .blk i → k ≠ g1 := by
    rintro k r hr h1 rfl
    rcases hat with e | e
    · have := h.ρl i u k hu e
      rw [hr] at this
      exact h1 (by simpa using this)
    · have := h.lt k (by rw [hr]; simp); omega
  have kk : ∀ k r, ρ k = some r → r ≠ .blk i → r ≠ .bv → w2.heap[k]? = w.heap[k]? := fun k r h1 h2 h3 => (keep k r h1 h2).resolve_right h3
  refine ⟨(kk sb .str h.ρs (by simp) (by simp)).trans h.str, h.map.of_block (kk mb .map h.ρm (by simp) (by simp)), by rw [List.length_set]; exact hrb, by rw [List.length_set, List.length_set]; exact h.len, ?_, h.rn, ?_, ?_, ?_, ?_, ?_, ?_, ?_⟩
  · intro s v hv
    exact ownsRow_of_block (h.re s v hv) fun g hg => kk g _ (h.ρe s v g hv hg) (by simp) (by simp)
  · intro j v l hv hl
    rw [List.getElem?_set] at hv hl
    by_cases e : i = j
    · subst e
      have hi : i < bs.length := (List.getElem?_eq_some_iff.1 hu).1
      have hi' : i < bl.length := by rw [← h.len]; exact hi
      simp only [if_true, if_pos hi] at hv
      simp only [if_true, if_pos hi'] at hl
      cases hv; cases hl
      exact hown
    · rw [if_neg e] at hv hl
      exact ownsRow_of_block (h.rl j v l hv hl) fun g hg => kk g _ (h.ρl j v g hv hg) (by simp; omega) (by simp)
  · simp only [if_neg (nog sb .str h.ρs (by simp))]; exact h.ρs
  · simp only [if_neg (nog mb .map h.ρm (by simp))]; exact h.ρm
  · intro g hg
    simp only [if_neg (nog g .bv (h.ρb g hg) (by simp))]; exact h.ρb g hg
  · intro s v g hv hg
    simp only [if_neg (nog g _ (h.ρe s v g hv hg) (by simp))]; exact h.ρe s v g hv hg
  · intro j v g hv hg
    rw [List.getElem?_set] at hv
    by_cases e : i = j
    · subst e
      have hi : i < bs.length := (List.getElem?_eq_some_iff.1 hu).1
      simp only [if_true, if_pos hi] at hv
      cases hv
      have : g1 = g := by simpa [Value.ownBlock] using hg
      simp [this]
    · rw [if_neg e] at hv
      simp only [if_neg (nog g _ (h.ρl j v g hv hg) (by simp; omega))]
      exact h.ρl j v g hv hg
  · intro k hk
    by_cases e : k = g1
    · rw [e]; exact hlt
    · simp only [if_neg e] at hk
      exact Nat.lt_of_lt_of_le (h.lt k hk) hsz

/-- The slice of blocks itself is set anew (a block more at its end, or one fewer). -/
theorem ScpAt.setBv {w w2 : World} {sb mb bv M bs ρ nm bl} (h : ScpAt w sb mb bv M bs ρ nm bl) (g1 n1 c1 : Nat) (bs' : List Value) (bl' : List (List ByteArray))
    (hstr : w2.heap[sb]? = some (.cells #[.map (some mb), .slice (some ⟨g1, 0, none⟩) n1 c1] 43 (0, 0)))
    (hb : ∀ k, k < w.heap.size → bv.ownBlock ≠ some k → k ≠ sb → w2.heap[k]? = w.heap[k]?)
    (hrb : w2.ownsRow 0 49 1 (.slice (some ⟨g1, 0, none⟩) n1 c1) bs'.length bs')
    (hlen : bs'.length = bl'.length) (hold : ∀ (i : Nat) (v : Value) (l : List ByteArray), bs'[i]? = some v → bl'[i]? = some l → (v = .slice none 0 0 ∧ l = []) ∨ (bs[i]? = some v ∧ bl[i]? = some l))
    (hat : bv.ownBlock = some g1 ∨ w.heap.size ≤ g1) (hlt : g1 < w2.heap.size) (hsz : w.heap.size ≤ w2.heap.size) :
    ScpAt w2 sb mb (.slice (some ⟨g1, 0, none⟩) n1 c1) M bs' (fun k => if k = g1 then some .bv else ρ k) nm bl' := by
  have kk : ∀ k r, ρ k = some r → r ≠ .bv → r ≠ .str → w2.heap[k]? = w.heap[k]? := by
    intro k r hr h1 h2
    have hk : k < w.heap.size := h.lt k (by rw [hr]; simp)
    refine hb k hk ?_ ?_
    · intro e
      have := h.ρb k e
      rw [hr] at this
      exact h1 (by simpa using this)
    · rintro rfl
      rw [h.ρs] at hr
      exact h2 (by simpa using hr.symm)
  have nog : ∀ k r, ρ k = some r → r ≠ .bv → k ≠ g1 := by
    rintro k r hr h1 rfl
    rcases hat with e | e
    · have := h.ρb k e
      rw [hr] at this
      exact h1 (by simpa using this)
    · have := h.lt k (by rw [hr]; simp); omega
  have back : ∀ (i : Nat) (v : Value), bs'[i]? = some v → (v = .slice none 0 0) ∨ bs[i]? = some v := by
    intro i v hv
    have hi : i < bl'.length := by rw [← hlen]; exact (List.getElem?_eq_some_iff.1 hv).1
    rcases hold i v bl'[i] hv (List.getElem?_eq_getElem hi) with ⟨e, _⟩ | ⟨e, _⟩
    · exact .inl e
    · exact .inr e
  refine ⟨hstr, h.map.of_block (kk mb .map h.ρm (by simp) (by simp)), hrb, hlen, ?_, h.rn, ?_, ?_, ?_, ?_, ?_, ?_, ?_⟩
  · intro s v hv
    exact ownsRow_of_block (h.re s v hv) fun g hg => kk g _ (h.ρe s v g hv hg) (by simp) (by simp)
  · intro i v l hv hl
    rcases hold i v l hv hl with ⟨rfl, rfl⟩ | ⟨e1, e2⟩
    · exact World.ownsRow_nil w2 0 9 1
    · exact ownsRow_of_block (h.rl i v l e1 e2) fun g hg => kk g _ (h.ρl i v g e1 hg) (by simp) (by simp)
  · simp only [if_neg (nog sb .str h.ρs (by simp))]; exact h.ρs
  · simp only [if_neg (nog mb .map h.ρm (by simp))]; exact h.ρm
  · intro g hg
    have : g1 = g := by simpa [Value.ownBlock] using hg
    simp [this]
  · intro s v g hv hg
    simp only [if_neg (nog g _ (h.ρe s v g hv hg) (by simp))]; exact h.ρe s v g hv hg
  · intro i v g hv hg
    rcases back i v hv with rfl | e
    · cases hg
    · simp only [if_neg (nog g _ (h.ρl i v g e hg) (by simp))]
      exact h.ρl i v g e hg
  · intro k hk
    by_cases e : k = g1
    · rw [e]; exact hlt
    · simp only [if_neg e] at hk
      exact Nat.lt_of_lt_of_le (h.lt k hk) hsz

end Go.Proofs.Ytanblanoaahcfaa
