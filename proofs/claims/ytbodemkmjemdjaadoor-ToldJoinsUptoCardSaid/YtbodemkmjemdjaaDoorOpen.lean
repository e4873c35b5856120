/-
  Arguments opened to their cells: files and changes, where their bulk is bounded.
-/
import Derived.Test.YtbodemkmjemdjaaDoorText
import Derived.Deep.Slices
import Derived.Deep.Fields
import Derived.ChangeSame
import Derived.ProofKit
import Derived.Lib.SmallJoins
namespace Go.Proofs.YtbodemkmjemdjaaDoor
open Go.ChangeShapes Go.WideShapes Go.Deep

theorem bulk_one {H : Type} (d : DataW H) : 1 ≤ Rows.uptoBulk d := by
  cases d with
  | lit l => cases l <;> simp [Rows.uptoBulk]
  | nil => simp [Rows.uptoBulk]
  | ptr d => simp [Rows.uptoBulk]
  | slice elems spare => simp [Rows.uptoBulk]
  | agg parts => simp [Rows.uptoBulk]
  | iface t d => simp [Rows.uptoBulk]
  | map entries => simp [Rows.uptoBulk]
  | held h => simp [Rows.uptoBulk]
theorem bulk_mem {H : Type} {d : DataW H} {l : List (DataW H)} (h : d ∈ l) : Rows.uptoBulk d ≤ Rows.uptoBulkAll l := by
  induction l with
  | nil => cases h
  | cons x r ih =>
    simp only [Rows.uptoBulkAll]
    rcases List.mem_cons.1 h with rfl | h
    · omega
    · have := ih h; omega
theorem bulk_len {H : Type} (l : List (DataW H)) : l.length ≤ Rows.uptoBulkAll l := by
  induction l with
  | nil => simp [Rows.uptoBulkAll]
  | cons x r ih => have := bulk_one x; simp only [Rows.uptoBulkAll, List.length_cons]; omega

section
variable {H : Type} {enc : TypeId × Value → H} {P : Program} {w : World} {base : Nat} {spare : Nat → Bool} {held : Bool}
theorem open_slice_fields {t e : TypeId} {fs : Array Field} {fuel : Nat} {cs : List Value} {x : DataW H × List MemPlace} (ht : P.underlying t = some (.slice e)) (he : P.underlying e = some (.struct fs))
    (hone : oneCellFields P fs = true) (hC : P.cellsOf e = fs.size) (h : DataW.trod enc P w base spare held fuel t cs = some x) :
    (cs = [.slice none 0 0] ∧ x = (.nil, [])) ∨
    ∃ (a : Addr) (len cap m : Nat) (D : Nat → DataW H) (Pl : Nat → List MemPlace), cs = [.slice (some a) len cap] ∧ base ≤ a.block ∧ len ≤ cap ∧ cap ≤ maxLen ∧ m = (if spare a.block then cap else len) ∧
      x = (.slice ((List.range len).map D) ((List.range (m - len)).map fun j => D (len + j)), MemPlace.row a (m * fs.size) ++ (List.range m).flatMap Pl) ∧
      ∀ i, i < m → ∃ (ys : List (DataW H × List MemPlace)) (n : Nat), D i = .agg (ys.map (·.1)) ∧ Pl i = ys.flatMap (·.2) ∧ ys.length = fs.size ∧
        ∀ (j : Nat) (f : Field), fs[j]? = some f → ∃ (v : Value) (y : DataW H × List MemPlace), w.cell? (a.add (i * fs.size + j)) = some v ∧ ys[j]? = some y ∧ DataW.trod enc P w base spare held n f.type [v] = some y := by
  rcases open_slice ht h with h0 | ⟨a, len, cap, m, n, D, Pl, hcs, hb, hl, hm, hmm, hx, hi⟩
  · exact .inl h0
  · refine .inr ⟨a, len, cap, m, D, Pl, hcs, hb, hl, hm, hmm, by rw [hC] at hx; exact hx, fun i him => ?_⟩
    obtain ⟨cs', hc, ht'⟩ := hi i him
    rw [hC] at hc
    obtain ⟨ys, n', hn', hy, hlen, hyl, hf⟩ := DataW.trod_struct he ht'
    obtain ⟨_, hcl, hat⟩ := World.cells?_some hc
    simp only [Prod.mk.injEq] at hy
    refine ⟨ys, n', hy.1, hy.2, hyl, fun j f hj => ?_⟩
    obtain ⟨ho, hk⟩ := hone_of hone j f hj
    have hjl : j < fs.size := (Array.getElem?_eq_some_iff.1 hj).1
    have hcell := hat j hjl
    have hv : cs'[j]? = some (cs'[j]'(by omega)) := List.getElem?_eq_getElem (by omega)
    have h1 := hf j f hj
    rw [ho, hk] at h1
    have hone' : (cs'.drop j).take 1 = [cs'[j]'(by omega)] := by
      rw [List.drop_eq_getElem_cons (by omega)]
      rfl
    rw [hone'] at h1
    have hys : ys[j]? = some (ys[j]'(by omega)) := List.getElem?_eq_getElem (by omega)
    refine ⟨_, _, ?_, hys, h1.trans hys⟩
    rw [← Go.Deep.add_add, hcell, hv]
end

theorem cells46 : Tryd.prog.cellsOf 46 = 3 := by kernel_rfl
theorem cells44 : Tryd.prog.cellsOf 44 = 2 := by kernel_rfl
theorem cells26 : Tryd.prog.cellsOf 26 = 2 := by kernel_rfl
theorem und46 : ∃ f0 f1 f2, Tryd.prog.underlying 46 = some (.struct #[f0, f1, f2]) ∧ f0.type = 3 ∧ f1.type = 3 ∧ f2.type = 9 ∧ oneCellFields Tryd.prog #[f0, f1, f2] = true := ⟨_, _, _, Tryd.underlying46, by kernel_rfl, by kernel_rfl, by kernel_rfl, by kernel_rfl⟩
theorem und44 : ∃ f0 f1, Tryd.prog.underlying 44 = some (.struct #[f0, f1]) ∧ f0.type = 9 ∧ f1.type = 42 ∧ oneCellFields Tryd.prog #[f0, f1] = true := ⟨_, _, Tryd.underlying44, by kernel_rfl, by kernel_rfl, by kernel_rfl⟩
theorem und26 : ∃ f0 f1, Tryd.prog.underlying 26 = some (.struct #[f0, f1]) ∧ f0.type = 9 ∧ f1.type = 9 ∧ oneCellFields Tryd.prog #[f0, f1] = true := ⟨_, _, Tryd.underlying26, by kernel_rfl, by kernel_rfl, by kernel_rfl⟩

theorem addAt (b off : Nat) (i : Nat) : (⟨b, off, none⟩ : Addr).add i = ⟨b, off + i, none⟩ := by unfold Addr.add; split <;> simp_all

theorem bulk_string {H : Type} {x : ByteArray} {y : DataW H} (h : y = .lit (.string x.data.toList)) : x.size + 1 = Rows.uptoBulk y := by
  have e : x.data.toList.length = x.size := Array.length_toList
  rw [h]; simp only [Rows.uptoBulk]; omega

section
variable {H : Type} {enc : TypeId × Value → H} {W : World} {spare : Nat → Bool} {held : Bool}
theorem open_eds {fuel : Nat} {v : Value} {x : DataW H × List MemPlace} (h : DataW.trod enc Tryd.prog W 0 spare held fuel 42 [v] = some x) (hb : Rows.uptoBulk x.1 ≤ 1048576) (hsp : ∀ b, spare b = true) : ∃ E, EdsAt W v E := by
  obtain ⟨f0, f1, f2, hu, t0, t1, t2, hone⟩ := und46
  rcases open_slice_fields Tryd.underlying42 hu hone cells46 h with ⟨hcs, _⟩ | ⟨a', len, cap, m, D, Pl, hcs, _, hl, hm, hmm, hx, hi⟩
  · simp only [List.cons.injEq, and_true] at hcs
    subst hcs
    exact ⟨[], none, 0, rfl, Nat.le_refl _, Nat.zero_le _, (fun e he => by cases he), .inl rfl⟩
  · simp only [List.cons.injEq, and_true] at hcs
    subst hcs
    rw [hsp, if_pos rfl] at hmm
    subst hmm
    rw [hx] at hb
    simp only [Rows.uptoBulk] at hb
    have hlen := bulk_len ((List.range len).map D)
    rw [List.length_map, List.length_range] at hlen
    have key : ∀ i, ∃ q : Ed, i < len → (W.cell? (a'.add (i * 3)) = some (.int .i64 q.fr) ∧ W.cell? (a'.add (i * 3 + 1)) = some (.int .i64 q.tt) ∧ W.cell? (a'.add (i * 3 + 2)) = some (.string q.tx)) ∧ q.fits := by
      intro i
      by_cases hin : i < len
      · obtain ⟨ys, k, hD, _, _, hfl⟩ := hi i (by omega)
        obtain ⟨v0, y0, c0, _, r0⟩ := hfl 0 f0 rfl
        obtain ⟨v1, y1, c1, _, r1⟩ := hfl 1 f1 rfl
        obtain ⟨v2, y2, c2, g2, r2⟩ := hfl 2 f2 rfl
        rw [t0] at r0
        rw [t1] at r1
        rw [t2] at r2
        obtain ⟨x0, e0, _, wf0⟩ := DataW.trod_int Tryd.underlying3 r0
        obtain ⟨x1, e1, _, wf1⟩ := DataW.trod_int Tryd.underlying3 r1
        obtain ⟨x2, e2, hy2, hx2⟩ := DataW.trod_string Tryd.underlying9 r2
        simp only [List.cons.injEq, and_true] at e0 e1 e2
        subst e0; subst e1; subst e2
        have hDm : D i ∈ (List.range len).map D := List.mem_map_of_mem (List.mem_range.2 hin)
        have b1 := bulk_mem hDm
        rw [hD] at b1
        simp only [Rows.uptoBulk] at b1
        have b2 := bulk_mem (List.mem_map_of_mem (f := fun x : DataW H × List MemPlace => x.1) (List.mem_of_getElem? g2))
        have b3 := bulk_string (x := x2) (y := y2.1) (by rw [hy2])
        have w0 : -9223372036854775808 ≤ x0 ∧ x0 ≤ 9223372036854775807 := by simpa [Lit.wf, IntKind.min, IntKind.max, IntKind.signed, IntKind.bits] using wf0
        have w1 : -9223372036854775808 ≤ x1 ∧ x1 ≤ 9223372036854775807 := by simpa [Lit.wf, IntKind.min, IntKind.max, IntKind.signed, IntKind.bits] using wf1
        exact ⟨⟨x0, x1, x2⟩, fun _ => ⟨⟨c0, c1, c2⟩, w0.1, w0.2, w1.1, w1.2, by dsimp only; omega⟩⟩
      · exact ⟨⟨0, 0, ⟨#[]⟩⟩, fun h => (hin h).elim⟩
    obtain ⟨st, hst⟩ := Classical.axiomOfChoice key
    have hEl : ((List.range len).map st).length = len := by simp
    refine ⟨(List.range len).map st, some a', m, by rw [hEl], by rw [hEl]; exact hl, by rw [hEl]; omega, ?_, ?_⟩
    · intro e he
      obtain ⟨i, hi', rfl⟩ := List.mem_map.1 he
      exact (hst i (List.mem_range.1 hi')).2
    · by_cases hn : len = 0
      · subst hn
        exact .inl rfl
      · obtain ⟨b, off, spot⟩ := a'
        have hc := (hst 0 (by omega)).1.1
        have hspot : spot = none := by simpa [Addr.add] using World.cell?_spot hc
        subst hspot
        refine .inr ⟨b, off, rfl, World.block_lt_of_cell? W _ hc, fun i e he => ?_⟩
        rw [List.getElem?_map] at he
        obtain ⟨i', hi', rfl⟩ := Option.map_eq_some_iff.1 he
        have hil : i < len := by
          have := (List.getElem?_eq_some_iff.1 hi').1
          simpa using this
        have : i' = i := by
          rw [List.getElem?_range hil] at hi'
          simpa using hi'.symm
        subst this
        obtain ⟨⟨c0, c1, c2⟩, _⟩ := hst i' hil
        rw [addAt] at c0 c1 c2
        exact ⟨c0, c1, c2⟩
theorem open_fils {fuel : Nat} {v : Value} {x : DataW H × List MemPlace} (h : DataW.trod enc Tryd.prog W 0 spare held fuel 22 [v] = some x) (hb : Rows.uptoBulk x.1 ≤ 1048576) (hsp : ∀ b, spare b = true) : ∃ L, FilsAt W v L := by
  obtain ⟨f0, f1, hu, t0, t1, hone⟩ := und26
  rcases open_slice_fields Tryd.underlying22 hu hone cells26 h with ⟨hcs, _⟩ | ⟨a', len, cap, m, D, Pl, hcs, _, hl, hm, hmm, hx, hi⟩
  · simp only [List.cons.injEq, and_true] at hcs
    subst hcs
    exact ⟨[], none, 0, rfl, Nat.le_refl _, Nat.zero_le _, (fun e he => by cases he), .inl rfl⟩
  · simp only [List.cons.injEq, and_true] at hcs
    subst hcs
    rw [hsp, if_pos rfl] at hmm
    subst hmm
    rw [hx] at hb
    simp only [Rows.uptoBulk] at hb
    have hlen := bulk_len ((List.range len).map D)
    rw [List.length_map, List.length_range] at hlen
    have key : ∀ i, ∃ q : Fil, i < len → (W.cell? (a'.add (i * 2)) = some (.string q.name) ∧ W.cell? (a'.add (i * 2 + 1)) = some (.string q.text)) ∧ q.name.size ≤ 2000000 ∧ q.text.size ≤ 2000000 := by
      intro i
      by_cases hin : i < len
      · obtain ⟨ys, k, hD, _, _, hfl⟩ := hi i (by omega)
        obtain ⟨v0, y0, c0, g0, r0⟩ := hfl 0 f0 rfl
        obtain ⟨v1, y1, c1, g1, r1⟩ := hfl 1 f1 rfl
        rw [t0] at r0
        rw [t1] at r1
        obtain ⟨x0, e0, hy0, _⟩ := DataW.trod_string Tryd.underlying9 r0
        obtain ⟨x1, e1, hy1, _⟩ := DataW.trod_string Tryd.underlying9 r1
        simp only [List.cons.injEq, and_true] at e0 e1
        subst e0; subst e1
        have hDm : D i ∈ (List.range len).map D := List.mem_map_of_mem (List.mem_range.2 hin)
        have b1 := bulk_mem hDm
        rw [hD] at b1
        simp only [Rows.uptoBulk] at b1
        have b2 := bulk_mem (List.mem_map_of_mem (f := fun x : DataW H × List MemPlace => x.1) (List.mem_of_getElem? g0))
        have b3 := bulk_mem (List.mem_map_of_mem (f := fun x : DataW H × List MemPlace => x.1) (List.mem_of_getElem? g1))
        have b4 := bulk_string (x := x0) (y := y0.1) (by rw [hy0])
        have b5 := bulk_string (x := x1) (y := y1.1) (by rw [hy1])
        exact ⟨⟨x0, x1⟩, fun _ => ⟨⟨c0, c1⟩, by dsimp only; omega, by dsimp only; omega⟩⟩
      · exact ⟨⟨⟨#[]⟩, ⟨#[]⟩⟩, fun h => (hin h).elim⟩
    obtain ⟨st, hst⟩ := Classical.axiomOfChoice key
    have hEl : ((List.range len).map st).length = len := by simp
    refine ⟨(List.range len).map st, some a', m, by rw [hEl], by rw [hEl]; exact hl, by rw [hEl]; omega, ?_, ?_⟩
    · intro e he
      obtain ⟨i, hi', rfl⟩ := List.mem_map.1 he
      exact (hst i (List.mem_range.1 hi')).2
    · by_cases hn : len = 0
      · subst hn
        exact .inl rfl
      · obtain ⟨b, off, spot⟩ := a'
        have hc := (hst 0 (by omega)).1.1
        have hspot : spot = none := by simpa [Addr.add] using World.cell?_spot hc
        subst hspot
        refine .inr ⟨b, off, rfl, World.block_lt_of_cell? W _ hc, fun i e he => ?_⟩
        rw [List.getElem?_map] at he
        obtain ⟨i', hi', rfl⟩ := Option.map_eq_some_iff.1 he
        have hil : i < len := by
          have := (List.getElem?_eq_some_iff.1 hi').1
          simpa using this
        have : i' = i := by
          rw [List.getElem?_range hil] at hi'
          simpa using hi'.symm
        subst this
        obtain ⟨⟨c0, c1⟩, _⟩ := hst i' hil
        rw [addAt] at c0 c1
        exact ⟨c0, c1⟩
theorem open_chgs {fuel : Nat} {v : Value} {x : DataW H × List MemPlace} (h : DataW.trod enc Tryd.prog W 0 spare held fuel 23 [v] = some x) (hb : Rows.uptoBulk x.1 ≤ 1048576) (hsp : ∀ b, spare b = true) : ∃ C, ChgsAt W v C := by
  obtain ⟨f0, f1, hu, t0, t1, hone⟩ := und44
  rcases open_slice_fields Tryd.underlying23 hu hone cells44 h with ⟨hcs, _⟩ | ⟨a', len, cap, m, D, Pl, hcs, _, hl, hm, hmm, hx, hi⟩
  · simp only [List.cons.injEq, and_true] at hcs
    subst hcs
    exact ⟨[], none, 0, rfl, Nat.le_refl _, Nat.zero_le _, Nat.zero_le _, (fun e he => by cases he), .inl rfl⟩
  · simp only [List.cons.injEq, and_true] at hcs
    subst hcs
    rw [hsp, if_pos rfl] at hmm
    subst hmm
    rw [hx] at hb
    simp only [Rows.uptoBulk] at hb
    have hlen := bulk_len ((List.range len).map D)
    rw [List.length_map, List.length_range] at hlen
    have key : ∀ i, ∃ q : Chg, i < len → (W.cell? (a'.add (i * 2)) = some (.string q.name) ∧ ∃ ev, W.cell? (a'.add (i * 2 + 1)) = some ev ∧ EdsAt W ev q.eds) ∧ q.name.size ≤ 2000000 := by
      intro i
      by_cases hin : i < len
      · obtain ⟨ys, k, hD, _, _, hfl⟩ := hi i (by omega)
        obtain ⟨v0, y0, c0, g0, r0⟩ := hfl 0 f0 rfl
        obtain ⟨v1, y1, c1, g1, r1⟩ := hfl 1 f1 rfl
        rw [t0] at r0
        rw [t1] at r1
        obtain ⟨x0, e0, hy0, _⟩ := DataW.trod_string Tryd.underlying9 r0
        simp only [List.cons.injEq, and_true] at e0
        subst e0
        have hDm : D i ∈ (List.range len).map D := List.mem_map_of_mem (List.mem_range.2 hin)
        have b1 := bulk_mem hDm
        rw [hD] at b1
        simp only [Rows.uptoBulk] at b1
        have b2 := bulk_mem (List.mem_map_of_mem (f := fun x : DataW H × List MemPlace => x.1) (List.mem_of_getElem? g0))
        have b3 := bulk_mem (List.mem_map_of_mem (f := fun x : DataW H × List MemPlace => x.1) (List.mem_of_getElem? g1))
        have b4 := bulk_string (x := x0) (y := y0.1) (by rw [hy0])
        obtain ⟨E, hE⟩ := open_eds r1 (by omega) hsp
        exact ⟨⟨x0, E⟩, fun _ => ⟨⟨c0, _, c1, hE⟩, by dsimp only; omega⟩⟩
      · exact ⟨⟨⟨#[]⟩, []⟩, fun h => (hin h).elim⟩
    obtain ⟨st, hst⟩ := Classical.axiomOfChoice key
    have hEl : ((List.range len).map st).length = len := by simp
    refine ⟨(List.range len).map st, some a', m, by rw [hEl], by rw [hEl]; exact hl, by unfold maxLen at hm; omega, by rw [hEl]; omega, ?_, ?_⟩
    · intro e he
      obtain ⟨i, hi', rfl⟩ := List.mem_map.1 he
      exact (hst i (List.mem_range.1 hi')).2
    · by_cases hn : len = 0
      · subst hn
        exact .inl rfl
      · obtain ⟨b, off, spot⟩ := a'
        have hc := (hst 0 (by omega)).1.1
        have hspot : spot = none := by simpa [Addr.add] using World.cell?_spot hc
        subst hspot
        refine .inr ⟨b, off, rfl, World.block_lt_of_cell? W _ hc, fun i e he => ?_⟩
        rw [List.getElem?_map] at he
        obtain ⟨i', hi', rfl⟩ := Option.map_eq_some_iff.1 he
        have hil : i < len := by
          have := (List.getElem?_eq_some_iff.1 hi').1
          simpa using this
        have : i' = i := by
          rw [List.getElem?_range hil] at hi'
          simpa using hi'.symm
        subst this
        obtain ⟨⟨c0, ev, c1, hE⟩, _⟩ := hst i' hil
        rw [addAt] at c0 c1
        exact ⟨c0, ev, c1, hE⟩
end

end Go.Proofs.YtbodemkmjemdjaaDoor
