/-
  An argument that is a slice of steps is opened to its cells.
-/
import Derived.Test.YtanblanoaahcfaaLastW
import Derived.Deep.Slices
import Derived.Deep.Fields
import Derived.ChangeSame
import Derived.ProofKit
import Derived.Lib.SmallJoins
namespace Go.Proofs.Ytanblanoaahcfaa
open Go.ChangeShapes Go.WideShapes Go.Deep

section
variable {H : Type} {enc : TypeId × Value → H} {P : Program} {w : World} {base : Nat} {spare : Nat → Bool} {held : Bool}
theorem open_slice_fields {t e : TypeId} {fs : Array Field} {fuel : Nat} {cs : List Value} {x : DataW H × List MemPlace} (ht : P.underlying t = some (.slice e)) (he : P.underlying e = some (.struct fs))
    (hone : oneCellFields P fs = true) (hC : P.cellsOf e = fs.size) (h : DataW.trod enc P w base spare held fuel t cs = some x) :
    (cs = [.slice none 0 0] ∧ x = (.nil, [])) ∨
    ∃ (a : Addr) (len cap m : Nat) (D : Nat → DataW H) (Pl : Nat → List MemPlace), cs = [.slice (some a) len cap] ∧ base ≤ a.block ∧ len ≤ cap ∧ cap ≤ maxLen ∧ m = (if spare a.block then cap else len) ∧
      x = (.slice ((List.range len).map D) ((List.range (m - len)).map fun j => D (len + j)), MemPlace.row a (m * fs.size) ++ (List.range m).flatMap Pl) ∧
      ∀ i, i < m → ∃ (ys : List (DataW H × List MemPlace)) (n : Nat), D i = .agg (ys.map (·.1)) ∧ Pl i = ys.flatMap (·.2) ∧ ys.length = fs.size ∧
        ∀ (j : Nat) (f : Field), fs[j]? = some f → ∃ (v : Value) (y : DataW H × List MemPlace), w.cell? (a.add (i * fs.size + j)) = some v ∧ ys[j]? = some y ∧ DataW.trod enc P w base spare held n f.type [v] = some y := by
  rcases open_slice ht h with h0 | ⟨a, len, cap, m, n, D, Pl, hcs, hb, hl, hm, hmm, hx, hi⟩
  · exact .inl h0
  · refine .inr ⟨a, len, cap, m, D, Pl, hcs, hb, hl, hm, hmm, by rw [hC] at hx; exact hx, fun i him => ?_⟩
    obtain ⟨cs', hc, ht'⟩ := hi i him
    rw [hC] at hc
    obtain ⟨ys, n', hn', hy, hlen, hyl, hf⟩ := DataW.trod_struct he ht'
    obtain ⟨_, hcl, hat⟩ := World.cells?_some hc
    simp only [Prod.mk.injEq] at hy
    refine ⟨ys, n', hy.1, hy.2, hyl, fun j f hj => ?_⟩
    obtain ⟨ho, hk⟩ := hone_of hone j f hj
    have hjl : j < fs.size := (Array.getElem?_eq_some_iff.1 hj).1
    have hcell := hat j hjl
    have hv : cs'[j]? = some (cs'[j]'(by omega)) := List.getElem?_eq_getElem (by omega)
    have h1 := hf j f hj
    rw [ho, hk] at h1
    have hone' : (cs'.drop j).take 1 = [cs'[j]'(by omega)] := by
      rw [List.drop_eq_getElem_cons (by omega)]
      rfl
    rw [hone'] at h1
    have hys : ys[j]? = some (ys[j]'(by omega)) := List.getElem?_eq_getElem (by omega)
    refine ⟨_, _, ?_, hys, h1.trans hys⟩
    rw [← Go.Deep.add_add, hcell, hv]
end

theorem Try.cells24 : Try.prog.cellsOf 24 = 3 := by kernel_rfl
theorem Try.und24 : ∃ f0 f1 f2, Try.prog.underlying 24 = some (.struct #[f0, f1, f2]) ∧ f0.type = 3 ∧ f1.type = 9 ∧ f2.type = 4 ∧ oneCellFields Try.prog #[f0, f1, f2] = true := ⟨_, _, _, Try.underlying24, by kernel_rfl, by kernel_rfl, by kernel_rfl, by kernel_rfl⟩

theorem addAt (b off : Nat) (i : Nat) : (⟨b, off, none⟩ : Addr).add i = ⟨b, off + i, none⟩ := by unfold Addr.add; split <;> simp_all

/-- A slice of steps, opened. -/
theorem open_steps {H : Type} {enc : TypeId × Value → H} {W : World} {spare : Nat → Bool} {held : Bool} {a : Option Addr} {n c : Nat} {d : DataW H} {p : List MemPlace}
    (h : DataW.Trod enc Try.prog W 0 spare held 22 (.slice a n c) d p) (hsp : ∀ b, spare b = true) : ∃ st, IsSteps W a n st := by
  obtain ⟨f0, f1, f2, hu, t0, t1, t2, hone⟩ := Try.und24
  obtain ⟨fuel, hf⟩ := h
  rcases open_slice_fields Try.underlying22 hu hone Try.cells24 hf with ⟨hcs, _⟩ | ⟨a', len, cap, m, D, Pl, hcs, _, hl, hm, hmm, _, hi⟩
  · simp [Value.cells] at hcs
    obtain ⟨rfl, rfl, rfl⟩ := hcs
    exact ⟨fun _ => (0, ⟨#[]⟩, false), .inl rfl⟩
  · simp [Value.cells] at hcs
    obtain ⟨rfl, rfl, rfl⟩ := hcs
    rw [hsp, if_pos rfl] at hmm
    have key : ∀ i, ∃ q : Int × ByteArray × Bool, i < n → W.cell? (a'.add (i * 3)) = some (.int .i64 q.1) ∧ W.cell? (a'.add (i * 3 + 1)) = some (.string q.2.1) ∧ W.cell? (a'.add (i * 3 + 2)) = some (.bool q.2.2) ∧ q.2.1.size ≤ maxLen := by
      intro i
      by_cases hin : i < n
      · obtain ⟨ys, k, _, _, _, hfl⟩ := hi i (by omega)
        obtain ⟨v0, y0, c0, _, r0⟩ := hfl 0 f0 rfl
        obtain ⟨v1, y1, c1, _, r1⟩ := hfl 1 f1 rfl
        obtain ⟨v2, y2, c2, _, r2⟩ := hfl 2 f2 rfl
        rw [t0] at r0
        rw [t1] at r1
        rw [t2] at r2
        obtain ⟨x0, e0, _, _⟩ := DataW.trod_int Try.underlying3 r0
        obtain ⟨x1, e1, _, hx1⟩ := DataW.trod_string Try.underlying9 r1
        obtain ⟨x2, e2, _⟩ := DataW.trod_bool Try.underlying4 r2
        simp only [List.cons.injEq, and_true] at e0 e1 e2
        subst e0; subst e1; subst e2
        exact ⟨(x0, x1, x2), fun _ => ⟨c0, c1, c2, hx1⟩⟩
      · exact ⟨(0, ⟨#[]⟩, false), fun h => (hin h).elim⟩
    obtain ⟨st, hst⟩ := Classical.axiomOfChoice key
    refine ⟨st, ?_⟩
    by_cases hn : n = 0
    · exact .inl hn
    · right
      obtain ⟨b, off, spot⟩ := a'
      have hc := (hst 0 (by omega)).1
      have hspot : spot = none := by simpa [Addr.add] using World.cell?_spot hc
      subst hspot
      refine ⟨b, off, rfl, World.block_lt_of_cell? W _ hc, fun i hin => ?_, fun i hin => (hst i hin).2.2.2⟩
      obtain ⟨c0, c1, c2, _⟩ := hst i hin
      rw [addAt] at c0 c1 c2
      exact ⟨c0, c1, c2⟩

end Go.Proofs.Ytanblanoaahcfaa
