/-
  The statement ScopePlays: whatever is called, a scope answers, and stands, as the document says. No condition beside the statement's own.
-/
import Derived.Test.YtanblanoaahcfaaOpenSteps
import Derived.Test.YtanblanoaahcfaaPlaysW
import Derived.ShutString
import Derived.ChangeOld
import Derived.Below
import Derived.SizedLaws
namespace Go.Proofs.Ytanblanoaahcfaa.Plays
open Go.ChangeShapes Go.WideShapes Go.ChangeAt Go.RowKit Go.Joins
open Go.ChangeMaps (open_string shut_string)

theorem own : ownKnob Try.prog.godebug = none := by kernel_rfl
theorem laidOut : laidOutB Try.prog = true := by kernel_rfl

/-- A slice of steps, opened: each name is within the reach. -/
theorem open_steps_sized {H : Type} {enc : TypeId × Value → H} {W : World} {spare : Nat → Bool} {held : Bool} {a : Option Addr} {n c : Nat} {d : DataW H} {p : List MemPlace}
    (h : DataW.Trod enc Try.prog W 0 spare held 22 (.slice a n c) d p) (hsp : ∀ b, spare b = true) (hz : ∀ m ∈ d.weights Try.prog 22, m ≤ reachBytes) : ∃ st, IsSteps W a n st ∧ ∀ i, i < n → (st i).2.1.size + 1 ≤ maxLen := by
  obtain ⟨st, hst⟩ := open_steps h hsp
  refine ⟨st, hst, fun i hin => ?_⟩
  obtain ⟨f0, f1, f2, hu, t0, t1, t2, hone⟩ := Try.und24
  obtain ⟨fuel, hf⟩ := h
  rcases open_slice_fields Try.underlying22 hu hone Try.cells24 hf with ⟨hcs, _⟩ | ⟨a', len, cap, m, D, Pl, hcs, _, hl, hm, hmm, hx, hi⟩
  · simp [Value.cells] at hcs
    omega
  · simp [Value.cells] at hcs
    obtain ⟨rfl, rfl, rfl⟩ := hcs
    rw [hsp, if_pos rfl] at hmm
    obtain ⟨ys, k, hD, _, hlen, hfl⟩ := hi i (by omega)
    obtain ⟨v1, y1, c1, hy1, r1⟩ := hfl 1 f1 rfl
    rw [t1] at r1
    obtain ⟨x1, e1, e1', hx1⟩ := DataW.trod_string Try.underlying9 r1
    simp only [List.cons.injEq, and_true] at e1
    subst e1
    have hd : d = .slice (List.map D (List.range n)) (List.map (fun j => D (n + j)) (List.range (m - n))) := (Prod.mk.injEq _ _ _ _ ▸ hx).1
    have hmem : D i ∈ List.map D (List.range n) := List.mem_map.2 ⟨i, List.mem_range.2 hin, rfl⟩
    have hw : x1.data.toList.length ∈ DataW.weights Try.prog 22 d := by
      rw [hd]
      have hin1 : x1.data.toList.length ∈ DataW.weights Try.prog 24 (D i) := by
        rw [hD]
        simp only [DataW.weights, hu]
        refine DataW.weights_mem_each (j := 1) (t := 9) (d := .lit (.string x1.data.toList)) ?_ ?_ _ (by simp [DataW.weights])
        · simp [t1]
        · rw [List.getElem?_map, hy1, e1']; rfl
      simp only [DataW.weights, Try.underlying22]
      refine List.mem_cons_of_mem _ (List.mem_append.2 (.inl ?_))
      have key : ∀ (l : List (DataW H)), D i ∈ l → x1.data.toList.length ∈ DataW.weightsAll Try.prog 24 l := by
        intro l
        induction l with
        | nil => intro h; cases h
        | cons y l ih =>
          intro h
          simp only [DataW.weightsAll, List.mem_append]
          rcases List.mem_cons.1 h with h1 | h1
          · left; rw [← h1]; exact hin1
          · right; exact ih h1
      exact key _ hmem
    have hr := hz _ hw
    have hcell : W.cell? (a'.add (i * 3 + 1)) = some (.string (st i).2.1) := by
      rcases hst with h0 | ⟨b, off, e, _, hc, _⟩
      · omega
      · have : a' = ⟨b, off, none⟩ := by simpa using e
        subst this
        rw [addAt]
        exact (hc i hin).2.1
    have hsame : x1 = (st i).2.1 := by
      have : W.cell? (a'.add (i * 3 + 1)) = some (.string x1) := c1
      rw [hcell] at this
      simpa using this.symm
    rw [← hsame]
    have h47 := reachBytes_lt
    have : x1.data.toList.length = x1.size := Array.length_toList
    unfold maxLen
    omega

set_option maxRecDepth 100000 in
theorem lifted (os : Os) (started : os.Started) (H : Type) (enc : TypeId × Value → H) :
    ReturnsInHanded {} Try.checked os 4 .any (Rows.scopePlaysSpec.pre6 enc Try.prog Try.f4 Rows.scopePlaysRow.domain false) (Rows.scopePlaysSpec.post enc Try.prog Try.f4 false true false false) := by
  refine returnsInHanded_of_change_sized (C := Try.checked) own started (by kernel_rfl) Try.func4
    (ChangeSpec.witness6 (enc := enc) (C := Try.checked) false ⟨#[], #[.slice none 0 0, .string ⟨#[]⟩], []⟩ 8 (by kernel_rfl) (by kernel_rfl) (by kernel_rfl) (by kernel_rfl)) ?_
  intro W base args ds gs before hval0 hW hcnd hsz0 _
  have hval : ∀ (j : Nat) t v, Try.f4.params[j]? = some t → args[j]? = some v → Value.okWide Try.prog W .any base t v := hval0
  have hsz : (DataW.weightsEach Try.prog (Try.f4.params.toList ++ Rows.scopePlaysSpec.plain.varTypes Try.prog) (ds ++ gs)).all (· ≤ reachBytes) = true := hsz0
  have hW' := hW
  obtain ⟨p, q, hA0, hV, rfl, hfz, hnd⟩ := hW
  have hA : DataW.TrodAll enc Try.prog W 0 (fun _ => true) true Try.f4.params.toList args.toList ds p := hA0
  rw [Try.params4] at hA hval hsz
  obtain ⟨v0, v1, d0, d1, p0, p1, rfl, rfl, rfl, h0, h1⟩ := trodAll_two hA
  obtain ⟨rfl, rfl⟩ := trodVars_none hV
  obtain ⟨a0, len0, cap0, rfl⟩ := okWide_slice Try.underlying22 (hval 0 22 v0 rfl rfl)
  obtain ⟨st, hst, hss⟩ := open_steps_sized h0 (fun _ => rfl) (fun m hm => by
    have := List.all_eq_true.1 hsz _ (DataW.weights_mem_each (j := 0) (t := 22) (d := d0) rfl rfl m hm)
    simpa using this)
  have k0 := h0
  have lt0 : ∀ x ∈ p0, x.block < W.heap.size := by obtain ⟨m, hm⟩ := k0; exact DataW.trod_lt m _ _ _ hm
  obtain ⟨ask, rfl, rfl, rfl, hos⟩ := open_string Try.underlying9 (hval 1 9 v1 rfl rfl) h1
  clear hA0 hval0
  refine (plays_any a0 len0 cap0 st ask W hst hss hos).mono fun e W' ⟨he, bel⟩ => ?_
  subst he
  exact ⟨_, rfl, _, _, _, [], _, [], hW', trodAll_mk1 (shut_bool Try.underlying4 _), (trodAll_cons_mk (Below.trod laidOut (by kernel_rfl) (of_decide_eq_true (by kernel_rfl)) k0 bel lt0) (trodAll_cons_mk (shut_string Try.underlying9 hos) trodAll_mk0)), rfl, bel.frame _, fun h => by cases h⟩

theorem over : Rows.scopePlaysRow.holds Try.pinned (OpenSpec.ofChange Rows.scopePlaysSpec) :=
  OpenClaim.holds_of_wide 4 Try.f4 rfl rfl rfl rfl rfl rfl rfl ⟨rfl, rfl, rfl, rfl, rfl⟩ rfl rfl rfl rfl rfl (by kernel_rfl) Try.func4 (by kernel_rfl)
    (of_decide_eq_true (by kernel_rfl)) (by unfold Func.isWrapper; first | (rw [if_pos (by decide +kernel)]; kernel_rfl) | (rw [if_neg (by decide +kernel)]; exact ⟨rfl, rfl⟩))
    (fun os started H enc _ => lifted os started H enc)

end Go.Proofs.Ytanblanoaahcfaa.Plays
namespace Go.Proofs.Ytanblanoaahcfaa
theorem scopePlays_holds : Rows.ScopePlaysSaid := Plays.over
#print axioms scopePlays_holds
end Go.Proofs.Ytanblanoaahcfaa
