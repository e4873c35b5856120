/-
  The memory of a scope (its struct, its map, its slices) described, and what the map operations do to it. No condition.
-/
import Derived.Test.YtanblanoaahcfaaRows
import Derived.WalkKit
import Derived.WalkSpells
import Derived.WalkLawsBesides
import Derived.Maps.OwnSet
import Derived.Maps.OwnOps
import Derived.Deep.AppendLies
import Derived.Lib.Hide
namespace Go.Proofs.Ytanblanoaahcfaa
open Go.RowKit Go.ChangeMaps Go.MapKept Go.WideMaps

theorem law9 : Maps.Keyed Try.prog 9 := Maps.string_keyed Try.underlying9
theorem zero46 (w : World) : (zeroValue 46).run Try.prog w = .ok (.slice none 0 0) w := by kernel_rfl

/-- Block mb is a map from strings that holds just what M tells. -/
def MapIs (w : World) (mb : Nat) (M : ByteArray → Option Value) : Prop :=
  ∃ es clock, w.heap[mb]? = some (.map es clock) ∧ Stamped es clock ∧
    (∀ x ∈ es.toList, ∃ s : ByteArray, s.size ≤ maxLen ∧ x.key = .string s ∧ M s = some x.val) ∧
    (∀ s v, M s = some v → ∃ x ∈ es.toList, x.key = .string s ∧ x.val = v)

theorem MapIs.of_block {w w' : World} {mb : Nat} {M} (h : MapIs w mb M) (hb : w'.heap[mb]? = w.heap[mb]?) : MapIs w' mb M := by
  obtain ⟨es, clock, h1, h2⟩ := h
  exact ⟨es, clock, hb.trans h1, h2⟩

theorem MapIs.lt {w : World} {mb : Nat} {M} (h : MapIs w mb M) : mb < w.heap.size := by
  obtain ⟨es, clock, h1, h2⟩ := h
  exact (Array.getElem?_eq_some_iff.1 h1).1

theorem MapIs.made (w : World) : MapIs (w.alloc (.map #[] 0)) w.heap.size (fun _ => none) :=
  ⟨#[], 0, (MapKept.heap_alloc w _).1, stamped_empty 0, by simp, by simp⟩

theorem MapIs.look {w : World} {mb : Nat} {M} (h : MapIs w mb M) (s : ByteArray) (hs : s.size ≤ maxLen) :
    (Instr.lookup 40 (.map (some mb)) (.string s) false).run Try.prog w = .ok ((M s).getD (.slice none 0 0)) w := by
  obtain ⟨es, clock, hb, hst, hin, hon⟩ := h
  have hkey := keyOf_string_mk Try.underlying9 hs
  have hk : ∀ e ∈ es.toList, ∃ l, keyOf Try.prog 9 e.key = some l := by
    intro e he
    obtain ⟨t, ht, hke, _⟩ := hin e he
    exact ⟨_, by rw [hke]; exact keyOf_string_mk Try.underlying9 ht⟩
  rcases law9.find w hkey es.toList hk with ⟨h1, h2⟩ | ⟨j, e0, h1, h2, h3⟩
  · have hn : M s = none := by
      cases hM : M s with
      | none => rfl
      | some v => obtain ⟨x, hx, hxs, _⟩ := hon s v hM; exact (h2 x hx hxs).elim
    rw [hn]
    simp [Instr.lookup, run_underlying Try.underlying40, MapKept.run_getObj_map hb, law9.check w _ hkey, h1, Result.andThen]
  · have hm0 : e0 ∈ es.toList := List.mem_of_getElem? h2
    obtain ⟨t, ht, hke, hMt⟩ := hin e0 hm0
    rw [h3] at hke
    have : s = t := by simpa using hke
    subst this
    rw [hMt]
    simp [Instr.lookup, run_underlying Try.underlying40, MapKept.run_getObj_map hb, law9.check w _ hkey, h1, Result.andThen]

def upd (M : ByteArray → Option Value) (s : ByteArray) (v : Value) : ByteArray → Option Value := fun k => if k = s then some v else M k

theorem MapIs.update {w : World} {mb : Nat} {M} (h : MapIs w mb M) (s : ByteArray) (hs : s.size ≤ maxLen) (v : Value) :
    ∃ w', (Instr.mapUpdate 40 (.map (some mb)) (.string s) v).run Try.prog w = .ok () w' ∧ MapIs w' mb (upd M s v) ∧ w.grownBy w' (some mb) ∧ w'.heap.size = w.heap.size := by
  obtain ⟨es, clock, hb, hst, hin, hon⟩ := h
  have hlt := (Array.getElem?_eq_some_iff.1 hb).1
  have hkey := keyOf_string_mk Try.underlying9 hs
  have hk : ∀ e ∈ es.toList, ∃ l, keyOf Try.prog 9 e.key = some l := by
    intro e he
    obtain ⟨t, ht, hke, _⟩ := hin e he
    exact ⟨_, by rw [hke]; exact keyOf_string_mk Try.underlying9 ht⟩
  have hgrow : ∀ o, w.grownBy (setBlock w mb o) (some mb) := fun o => ⟨rfl, rfl, rfl, by simp [setBlock], fun k hk hne => by
    have : mb ≠ k := fun e => hne (by rw [e])
    simp [setBlock, this]⟩
  have hnew : ∀ o, (setBlock w mb o).heap[mb]? = some o := fun o => by simp [setBlock, hlt]
  rcases law9.find w hkey es.toList hk with ⟨h1, h2⟩ | ⟨j, e0, h1, h2, h3⟩
  · refine ⟨setBlock w mb (.map (es.push ⟨.string s, v, clock⟩) (clock + 1)), ?_, ⟨_, _, hnew _, stamped_push hst h2, ?_, ?_⟩, hgrow _, by simp [setBlock]⟩
    · simp [Instr.mapUpdate, run_underlying Try.underlying40, MapKept.run_getObj_map hb, law9.check w false hkey, h1, MapKept.run_setObj_map _ hb, Result.andThen, setBlock]
    · intro x hx
      simp only [Array.toList_push, List.mem_append, List.mem_singleton] at hx
      rcases hx with hx | rfl
      · obtain ⟨t, ht, hke, hMt⟩ := hin x hx
        refine ⟨t, ht, hke, ?_⟩
        have : t ≠ s := fun e => h2 x hx (by rw [hke, e])
        simp [upd, this, hMt]
      · exact ⟨s, hs, rfl, by simp [upd]⟩
    · intro t u ht
      unfold upd at ht
      split at ht
      · rename_i e; subst e
        exact ⟨⟨.string t, v, clock⟩, by simp, rfl, by simpa using ht⟩
      · obtain ⟨x, hx, h5⟩ := hon t u ht
        exact ⟨x, by simp [Array.mem_toList_iff.1 hx], h5⟩
  · have hj : es[j]? = some e0 := by simpa using h2
    have hjl : j < es.toList.length := (List.getElem?_eq_some_iff.1 h2).1
    have hkeyf : ∀ e', es[j]? = some e' → ({ e' with key := .string s, val := v } : MapEntry).key = e'.key := fun e' he' => by rw [hj] at he'; cases he'; exact h3.symm
    have hlist : (es.modify j (fun e' => { e' with key := .string s, val := v })).toList = es.toList.set j { e0 with key := .string s, val := v } := by rw [Array.toList_modify, ChangeMaps.modify_eq_set _ _ _ _ h2]
    have hother : ∀ i x, es.toList[i]? = some x → x.key = .string s → i = j := by
      intro i x hx hxs
      have hi : i < es.toList.length := (List.getElem?_eq_some_iff.1 hx).1
      exact (List.getElem?_inj (by simpa using hi) hst.2.2).1 (by rw [List.getElem?_map, List.getElem?_map, hx, h2]; simp [hxs, h3])
    refine ⟨setBlock w mb (.map (es.modify j (fun e' => { e' with key := .string s, val := v })) clock), ?_, ⟨_, _, hnew _, stamped_modify hst _ _ (fun _ _ => rfl) (fun e' _ he' => hkeyf e' he'), ?_, ?_⟩, hgrow _, by simp [setBlock]⟩
    · simp [Instr.mapUpdate, run_underlying Try.underlying40, MapKept.run_getObj_map hb, law9.check w false hkey, h1, hj, h3, law9.stays w hkey, MapKept.run_setObj_map _ hb, Result.andThen, setBlock]
    · intro x hx
      rw [hlist] at hx
      obtain ⟨i, hi⟩ := List.mem_iff_getElem?.1 hx
      rw [List.getElem?_set] at hi
      split at hi
      · cases hi
        exact ⟨s, hs, rfl, by simp [upd]⟩
      · rename_i hne
        obtain ⟨t, ht, hke, hMt⟩ := hin x (List.mem_of_getElem? hi)
        refine ⟨t, ht, hke, ?_⟩
        have : t ≠ s := fun e => hne (hother i x hi (by rw [hke, e])).symm
        simp [upd, this, hMt]
    · intro t u ht
      rw [hlist]
      unfold upd at ht
      split at ht
      · rename_i e; subst e
        exact ⟨{ e0 with key := .string t, val := v }, List.mem_iff_getElem?.2 ⟨j, by simp only [Array.length_toList] at hjl; simp [hjl]⟩, rfl, by simpa using ht⟩
      · rename_i hne
        obtain ⟨x, hx, hxk, hxv⟩ := hon t u ht
        obtain ⟨i, hi⟩ := List.mem_iff_getElem?.1 hx
        have hij : j ≠ i := by
          rintro rfl
          rw [h2] at hi; cases hi
          rw [h3] at hxk
          exact hne (by simpa using hxk.symm)
        exact ⟨x, List.mem_iff_getElem?.2 ⟨i, by rw [List.getElem?_set, if_neg hij]; exact hi⟩, hxk, hxv⟩

section
variable {ops : Array Oper} {rest : List Oper} {o : Oper} {a : Act} {Q : Exit → Act → World → Prop} {w : World}

theorem wp_look {K : Act → World → Prop} (m x : Operand) (hop : o.op = Op.lookup 40 m x false) (mb : Nat) (M : ByteArray → Option Value) (s : ByteArray)
    (hm : a.eval m = .map (some mb)) (hx : a.eval x = .string s) (h : MapIs w mb M) (hs : s.size ≤ maxLen)
    (hK : K (a.put o.dst ((M s).getD (.slice none 0 0))) w) : Oper.wp Try.prog o a w K Q := by
  unfold Oper.wp
  simp [execOp, hop, hm, hx, h.look s hs, Result.andThen]
  exact hK

theorem wpList_look (hg : o.guard = none) (m x : Operand) (hop : o.op = Op.lookup 40 m x false) (mb : Nat) (M : ByteArray → Option Value) (s : ByteArray)
    (hm : a.eval m = .map (some mb)) (hx : a.eval x = .string s) (h : MapIs w mb M) (hs : s.size ≤ maxLen)
    (hK : wpList Try.prog ops Q rest (a.put o.dst ((M s).getD (.slice none 0 0))) w) : wpList Try.prog ops Q (o :: rest) a w :=
  wpList_plain hg fun _ hK' => wp_look m x hop mb M s hm hx h hs (hK' _ _ hK)

theorem wp_upd {K : Act → World → Prop} (m x v : Operand) (hop : o.op = Op.mapUpdate 40 m x v) (mb : Nat) (M : ByteArray → Option Value) (s : ByteArray) (u : Value)
    (hm : a.eval m = .map (some mb)) (hx : a.eval x = .string s) (hv : a.eval v = u) (h : MapIs w mb M) (hs : s.size ≤ maxLen)
    (hK : ∀ w', MapIs w' mb (upd M s u) → w.grownBy w' (some mb) → w'.heap.size = w.heap.size → K (a.put o.dst undef) w') : Oper.wp Try.prog o a w K Q := by
  obtain ⟨w', hrun, h1, h2, h3⟩ := h.update s hs u
  unfold Oper.wp
  simp [execOp, hop, hm, hx, hv, hrun, Result.andThen]
  exact hK w' h1 h2 h3

theorem wpList_upd (hg : o.guard = none) (m x v : Operand) (hop : o.op = Op.mapUpdate 40 m x v) (mb : Nat) (M : ByteArray → Option Value) (s : ByteArray) (u : Value)
    (hm : a.eval m = .map (some mb)) (hx : a.eval x = .string s) (hv : a.eval v = u) (h : MapIs w mb M) (hs : s.size ≤ maxLen)
    (hK : ∀ w', MapIs w' mb (upd M s u) → w.grownBy w' (some mb) → w'.heap.size = w.heap.size → wpList Try.prog ops Q rest (a.put o.dst undef) w') : wpList Try.prog ops Q (o :: rest) a w :=
  wpList_plain hg fun _ hK' => wp_upd m x v hop mb M s u hm hx hv h hs fun w' h1 h2 h3 => hK' _ _ (hK w' h1 h2 h3)

theorem step_upd {K : Act → World → Prop} {E : Prop} (hg : o.guard = none) (m x v : Operand) (hop : o.op = Op.mapUpdate 40 m x v) (mb : Nat) (M : ByteArray → Option Value) (s : ByteArray) (u : Value)
    (hm : a.eval m = .map (some mb)) (hx : a.eval x = .string s) (hv : a.eval v = u) (h : MapIs w mb M) (hs : s.size ≤ maxLen)
    (hK : ∀ w', MapIs w' mb (upd M s u) → w.grownBy w' (some mb) → w'.heap.size = w.heap.size → K (a.put o.dst undef) w') :
    if Region.wanted o (yielded ops a.tmps) = true then Oper.wp Try.prog o a w K Q else E := by
  have hw : Region.wanted o (yielded ops a.tmps) = true := by simp [Region.wanted, hg]
  rw [if_pos hw]
  exact wp_upd m x v hop mb M s u hm hx hv h hs hK
end

/-! ### A scope in memory -/
inductive Role where
  | str | map | bv | ent (s : ByteArray) | blk (i : Nat)

def cellsM (l : List (Nat × Bool)) : List Value := l.flatMap fun m => [.int .i64 m.1, .bool m.2]
theorem cellsM_length (l : List (Nat × Bool)) : (cellsM l).length = l.length * 2 := by
  induction l with
  | nil => rfl
  | cons x l ih => simp only [cellsM, List.flatMap_cons, List.length_append, List.length_cons] at ih ⊢; rw [ih]; simp; omega
theorem cellsM_append (a b : List (Nat × Bool)) : cellsM (a ++ b) = cellsM a ++ cellsM b := by simp [cellsM]

/-- A scope: struct block sb, map mb, the slice of blocks bv (its elements bs), what the map holds M; nm: each name's marks; bl: each block's names. -/
structure ScpAt (w : World) (sb mb : Nat) (bv : Value) (M : ByteArray → Option Value) (bs : List Value) (ρ : Nat → Option Role) (nm : ByteArray → List (Nat × Bool)) (bl : List (List ByteArray)) : Prop where
  str : w.heap[sb]? = some (.cells #[.map (some mb), bv] 43 (0, 0))
  map : MapIs w mb M
  rb : w.ownsRow 0 49 1 bv bs.length bs
  len : bs.length = bl.length
  re : ∀ s v, M s = some v → w.ownsRow 0 48 2 v (nm s).length (cellsM (nm s))
  rn : ∀ s, M s = none → nm s = []
  rl : ∀ (i : Nat) (v : Value) (l : List ByteArray), bs[i]? = some v → bl[i]? = some l → w.ownsRow 0 9 1 v l.length (l.map .string)
  ρs : ρ sb = some .str
  ρm : ρ mb = some .map
  ρb : ∀ g, bv.ownBlock = some g → ρ g = some .bv
  ρe : ∀ s v g, M s = some v → v.ownBlock = some g → ρ g = some (.ent s)
  ρl : ∀ (i : Nat) (v : Value) (g : Nat), bs[i]? = some v → v.ownBlock = some g → ρ g = some (.blk i)
  lt : ∀ k, ρ k ≠ none → k < w.heap.size

/-- What is not of the scope is as it was. -/
structure Turns (w w' : World) (ρ : Nat → Option Role) : Prop where
  os : w'.os = w.os
  tape : w'.tape = w.tape
  output : w'.output = w.output
  size : w.heap.size ≤ w'.heap.size
  block : ∀ k, k < w.heap.size → ρ k = none → w'.heap[k]? = w.heap[k]?

theorem ownsRow_of_block {w w' : World} {base e size : Nat} {v : Value} {n : Nat} {xs : List Value} (h : w.ownsRow base e size v n xs)
    (hb : ∀ g, v.ownBlock = some g → w'.heap[g]? = w.heap[g]?) : w'.ownsRow base e size v n xs := by
  refine ⟨h.1, ?_⟩
  rcases h.2 with hn | ⟨g, cap, cur, rfl, hb0, hgg, rest⟩
  · exact .inl hn
  · exact .inr ⟨g, cap, cur, rfl, hb0, (hb g rfl).trans hgg, rest⟩

/-- The scope stays what it is while its blocks lie as they lay. -/
theorem ScpAt.frame {w w' : World} {sb mb bv M bs ρ nm bl} (h : ScpAt w sb mb bv M bs ρ nm bl) (hs : w.heap.size ≤ w'.heap.size) (hb : ∀ k, ρ k ≠ none → w'.heap[k]? = w.heap[k]?) : ScpAt w' sb mb bv M bs ρ nm bl where
  str := (hb sb (by rw [h.ρs]; simp)).trans h.str
  map := h.map.of_block (hb mb (by rw [h.ρm]; simp))
  rb := ownsRow_of_block h.rb fun g hg => hb g (by rw [h.ρb g hg]; simp)
  len := h.len
  re s v hv := ownsRow_of_block (h.re s v hv) fun g hg => hb g (by rw [h.ρe s v g hv hg]; simp)
  rn := h.rn
  rl i v l hv hl := ownsRow_of_block (h.rl i v l hv hl) fun g hg => hb g (by rw [h.ρl i v g hv hg]; simp)
  ρs := h.ρs
  ρm := h.ρm
  ρb := h.ρb
  ρe := h.ρe
  ρl := h.ρl
  lt k hk := Nat.lt_of_lt_of_le (h.lt k hk) hs

end Go.Proofs.Ytanblanoaahcfaa
