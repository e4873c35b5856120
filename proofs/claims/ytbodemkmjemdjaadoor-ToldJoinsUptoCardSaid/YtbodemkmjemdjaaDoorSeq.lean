/-
  AppendSeq and Collect over an iterator that makes blocks of its own and turns two known blocks: the edits that it hands out, in a row.
-/
import Derived.Test.YtbodemkmjemdjaaDoorTold
import Derived.RangeFuncWrites
import Derived.RangeFuncBox
import Derived.Maps.AppendAt
namespace Go.Proofs.YtbodemkmjemdjaaDoor
open Go.RowKit

attribute [local go_sem] Oper.semAt_some

/-- What the iterator turns: its reader's block, the flag's, and blocks that it makes. -/
structure Steps (R Bd : Nat) (A B : World) : Prop where
  os : B.os = A.os
  tape : B.tape = A.tape
  output : B.output = A.output
  size : A.heap.size ≤ B.heap.size
  block : ∀ k, k < A.heap.size → k ≠ R → k ≠ Bd → B.heap[k]? = A.heap[k]?
theorem Steps.refl (R Bd : Nat) (A : World) : Steps R Bd A A := ⟨rfl, rfl, rfl, Nat.le_refl _, fun _ _ _ _ => rfl⟩
theorem Steps.trans {R Bd : Nat} {A B C : World} (h : Steps R Bd A B) (k : Steps R Bd B C) : Steps R Bd A C :=
  ⟨k.os.trans h.os, k.tape.trans h.tape, k.output.trans h.output, Nat.le_trans h.size k.size, fun i hi h1 h2 => (k.block i (Nat.lt_of_lt_of_le hi h.size) h1 h2).trans (h.block i hi h1 h2)⟩
theorem Steps.of_below {R Bd : Nat} {A B : World} (h : Below A.heap.size A B) : Steps R Bd A B := ⟨h.os, h.tape, h.output, h.size, fun k hk _ _ => h.block k hk⟩
theorem Steps.then_below {R Bd n : Nat} {w A B : World} (h : Steps R Bd w A) (hb : Below n A B) (hn : w.heap.size ≤ n) : Steps R Bd w B :=
  ⟨hb.os.trans h.os, hb.tape.trans h.tape, hb.output.trans h.output, Nat.le_trans h.size hb.size, fun k hk h1 h2 => (hb.block k (by omega)).trans (h.block k hk h1 h2)⟩
theorem Steps.below {R Bd n : Nat} {A B : World} (h : Steps R Bd A B) (h1 : n ≤ R) (h2 : n ≤ Bd) (h3 : n ≤ A.heap.size) : Below n A B :=
  ⟨h.os, h.tape, h.output, h.size, fun k hk => h.block k (by omega) (by omega) (by omega)⟩
theorem Steps.boxed {R Bd O : Nat} {A B : World} {t : TypeId} {v : Value} (h : Steps R Bd A B) (hO : R < O) (hO2 : Bd < O) (hb : Boxed A O t v) : Boxed B O t v :=
  (h.block O hb.lt (by omega) (by omega)).trans hb
theorem Steps.row {R Bd base e size n : Nat} {A B : World} {v : Value} {xs : List Value} (h : Steps R Bd A B) (hO : R < base) (hO2 : Bd < base) (hr : A.ownsRow base e size v n xs) : B.ownsRow base e size v n xs := by
  refine ⟨hr.1, ?_⟩
  rcases hr.2 with h0 | ⟨g, cap, cur, hv, hb, hg, hrest⟩
  · exact .inl h0
  · exact .inr ⟨g, cap, cur, hv, hb, (h.block g (Array.getElem?_eq_some_iff.1 hg).1 (by omega) (by omega)).trans hg, hrest⟩

/-- What the loop's body keeps: all that lay when the loop began, and all that the iterator has made since it went on. -/
def Kept (n0 : Nat) (A B W' : World) : Prop := Below n0 B W' ∧ ∀ k, A.heap.size ≤ k → k < B.heap.size → W'.heap[k]? = B.heap[k]?

/-- The iterator gf hands out zs, for every loop that goes on; at its end, End. -/
def Gives {α : Type} (F : Fence) (n : Nat) (P : Program) (gf : Nat) (lb : Array Value) (encs : α → Array Value) (R Bd : Nat) (zs : List α) (End : World → Prop) (w : World) : Prop :=
  ∀ (l : Nat) (J : List α → World → Prop) (W : World), Below w.heap.size w W → (∀ pre A B, Steps R Bd A B → J pre A → J pre B) →
    (∀ pre x A B, J pre A → Steps R Bd A B → (pre ++ [x]) <+: zs → YieldAt F (n - 1) P l (encs x) B fun e W' => e = .returned (.bool true) ∧ J (pre ++ [x]) W' ∧ Kept w.heap.size A B W') →
    J [] W → CallsIn F n P gf (#[.func (.yield l) #[] #[]] ++ lb) W fun e W' => (∃ v, e = .returned v) ∧ J zs W' ∧ End W'

def edV (e : Ed) : Value := .agg #[.int .i64 e.fr, .int .i64 e.tt, .string e.tx]
def edCells : List Ed → List Value
  | [] => []
  | e :: E => .int .i64 e.fr :: .int .i64 e.tt :: .string e.tx :: edCells E
theorem edCells_length (E : List Ed) : (edCells E).length = E.length * 3 := by
  induction E with
  | nil => rfl
  | cons e E ih => simp [edCells, ih]; omega
theorem edCells_snoc (E : List Ed) (e : Ed) : edCells (E ++ [e]) = edCells E ++ [.int .i64 e.fr, .int .i64 e.tt, .string e.tx] := by
  induction E with
  | nil => rfl
  | cons f E ih => simp [edCells, ih]
theorem edCells_at {E : List Ed} {k : Nat} {e : Ed} (h : E[k]? = some e) : (edCells E)[k * 3]? = some (.int .i64 e.fr) ∧ (edCells E)[k * 3 + 1]? = some (.int .i64 e.tt) ∧ (edCells E)[k * 3 + 2]? = some (.string e.tx) := by
  induction E generalizing k with
  | nil => simp at h
  | cons f E ih =>
    cases k with
    | zero =>
      obtain rfl : f = e := by simpa using h
      exact ⟨rfl, rfl, rfl⟩
    | succ k =>
      have := ih (k := k) (by simpa using h)
      rw [show (k + 1) * 3 = k * 3 + 1 + 1 + 1 by omega]
      simpa [edCells] using this
theorem edsAt_of_row {w : World} {base n : Nat} {v : Value} {E : List Ed} (h : w.ownsRow base 46 3 v n (edCells E)) (hn : E.length = n) (hl : n ≤ 2000000) (hs : ∀ e ∈ E, e.fits) : EdsAt w v E := by
  subst hn
  rcases h.2 with ⟨rfl, h1⟩ | ⟨g, cap, cur, rfl, hb, hg, hn, hc, hsz, ht⟩
  · exact ⟨none, 0, by rw [h1], by omega, hl, hs, .inl (List.eq_nil_of_length_eq_zero h1)⟩
  · refine ⟨_, cap, rfl, hn, hl, hs, .inr ⟨g, 0, rfl, (Array.getElem?_eq_some_iff.1 hg).1, fun k f hf => ?_⟩⟩
    obtain ⟨q1, q2, q3⟩ := edCells_at hf
    rw [Nat.zero_add]
    exact ⟨own_cell h q1, own_cell h q2, own_cell h q3⟩

theorem info46 : (Tryd.prog.info? 46).map (fun i => (i.zero, i.size, i.bytes)) = some (some (.agg #[.int .i64 0, .int .i64 0, .string ⟨#[]⟩]), 3, 32) := by kernel_rfl

/-- Between two rounds: the variable O holds the row of what has come. -/
def Has (b0 O R Bd : Nat) (w : World) (pre : List Ed) (W : World) (v : Value) : Prop :=
  Boxed W O 42 v ∧ W.ownsRow b0 46 3 v pre.length (edCells pre) ∧ Steps R Bd w W ∧ b0 ≤ W.heap.size

/-- What a world is behind a turn of the loop's record. -/
theorem grown_put (W : World) (l : Nat) (o : Obj) : W.grownBy (W.putObj l o) (some l) := grownBy_putObj' W l o

theorem seqEach {α : Type} {F : Fence} {n : Nat} {P : Program} {g : Operand} {ps : Array Tmp} {assign body : Code} {Q : Exit → Act → World → Prop} {a : Act} {w w0 : World}
    (hro : F.round = none) (h1 : 1 ≤ n) {gf : Nat} {lb : Array Value} (hg : a.eval g = .func (.func gf) #[] lb) (hFg : F.fn gf) (eg : ∀ args w, (callFunc gf args).run P w = .ok (.enter gf args) w)
    {encs : α → Array Value} {R Bd : Nat} {zs : List α} {End : World → Prop} (hw0 : Below w0.heap.size w0 w) (hR : R < w.heap.size) (hBd : Bd < w.heap.size)
    (hseq : Gives F (n - 1) P gf lb encs R Bd zs End w0) (hps : ∀ x, (encs x).size = ps.size)
    (I : List α → World → Prop) (hI : OwnFrom w.heap.size I) (hIS : ∀ pre A B, Steps R Bd A B → I pre A → I pre B) (h0 : I [] w)
    (hround : ∀ (l : Nat) (pre : List α) (x : α) (A B : World), I pre A → Steps R Bd A B → w.heap.size ≤ l → (pre ++ [x]) <+: zs →
      assign.wpIn (F.inRound l) (n - 1 - 1) P (Exit.then (fun a1 W1 => Below B.heap.size B W1 ∧
          ∀ W2, W1.grownBy W2 (some l) → (∃ r, W1.heap[l]? = some (.loop r)) → body.wpIn (F.inRound l) (n - 1 - 1) P (fun e _ W3 => e = .normal ∧ KeepsFrom w.heap.size W2 W3 ∧ I (pre ++ [x]) W3 ∧ Below w0.heap.size W2 W3 ∧
            ∀ k, A.heap.size ≤ k → k < B.heap.size → W3.heap[k]? = W2.heap[k]?) a1 W2) (fun _ _ _ => False))
        { tmps := (ps.zip (encs x)).foldl (fun t (p, v) => t.setIfInBounds p v) a.tmps, defers := [] } B)
    (hdone : ∀ (D : Nat) (W : World), w.heap.size ≤ D → (∃ W0, I zs W0 ∧ End W0 ∧ I zs W ∧ Below w.heap.size W0 W) → W.heap[D]? = some (.deferred (some [])) → Q .normal { a with defers := { target := .collected D, args := #[] } :: a.defers } W) :
    (Code.rangeFunc g ps assign body).wpIn F n P Q a w := by
  refine wpIn_rangeFunc ?_
  intro fn hfn
  rw [hro]
  obtain ⟨rec, hrec⟩ : ∃ rec : LoopState → Option Code → Loop, rec = fun st pe => { state := st, pending := pe, fn, tmps := a.tmps, params := ps, assign, body, defers := w.heap.size } := ⟨_, rfl⟩
  obtain ⟨V, hV⟩ : ∃ V, (w.alloc (.deferred (some []))).alloc (.loop (rec .ready none)) = V := ⟨_, rfl⟩
  have vLoop : V.heap[w.heap.size + 1]? = some (.loop (rec .ready none)) := by
    have := World.alloc_heap_new (w.alloc (.deferred (some []))) (.loop (rec .ready none))
    rwa [World.size_alloc, hV] at this
  have vDef : V.heap[w.heap.size]? = some (.deferred (some [])) := by
    rw [← hV, Below.heap_alloc _ _ _ (by simp)]
    exact World.alloc_heap_new w _
  have vI : I [] V := by rw [← hV]; exact hI.alloc _ (hI.alloc _ h0)
  have vB : Below w.heap.size w V := by rw [← hV]; exact ((Below.refl _ w).alloc (Nat.le_refl _) _).alloc (by simp) _
  have hn0 : w0.heap.size ≤ w.heap.size := hw0.size
  refine ⟨w.heap.size + 1, [{ target := .collected w.heap.size, args := #[] }], V, { target := .fn (.func gf) lb, args := #[.func (.yield (w.heap.size + 1)) #[] #[]] }, V, gf,
    #[.func (.yield (w.heap.size + 1)) #[] #[]] ++ lb, V, ?_, ?_, ?_, ?_, fun _ => h1, ?_⟩
  · rw [← hV, hrec]; exact run_enterLoop_outer _ _ _ _ _
  · simp only [resolve, hg]
    simp [go_sem]
  · intro f' hf'; simp [Target.leads] at hf'; subst hf'; exact hFg
  · simp [invoke, go_sem, eg]
  · refine (hseq (w.heap.size + 1) (fun pre W => I pre W ∧ W.heap[w.heap.size + 1]? = some (.loop (rec .ready none)) ∧ W.heap[w.heap.size]? = some (.deferred (some []))) V (hw0.trans (vB.mono hn0))
      (fun pre A B hs hj => ⟨hIS pre A B hs hj.1, (hs.block _ (Array.getElem?_eq_some_iff.1 hj.2.1).1 (by omega) (by omega)).trans hj.2.1, (hs.block _ (Array.getElem?_eq_some_iff.1 hj.2.2).1 (by omega) (by omega)).trans hj.2.2⟩) ?_ ⟨vI, vLoop, vDef⟩).mono ?_
    · rintro pre x A B ⟨hi, hl0, hd0⟩ hs hp
      have hlA : w.heap.size + 1 < A.heap.size := (Array.getElem?_eq_some_iff.1 hl0).1
      have hl : B.heap[w.heap.size + 1]? = some (.loop (rec .ready none)) := (hs.block _ hlA (by omega) (by omega)).trans hl0
      have hd : B.heap[w.heap.size]? = some (.deferred (some [])) := (hs.block _ (by omega) (by omega) (by omega)).trans hd0
      have hlt : w.heap.size + 1 < B.heap.size := (Array.getElem?_eq_some_iff.1 hl).1
      have hy := run_yield (P := P) (args := encs x) hl (by rw [hrec]; exact hps x)
      rw [hrec] at hy
      refine ⟨fn, _, assign, body, hy, roundIn_of_wpIn hfn (wpIn_mono (hround (w.heap.size + 1) pre x A B hi hs (by omega) hp) ?_)⟩
      rintro e a1 W1 he
      cases e with
      | normal =>
        obtain ⟨hb1, hbody⟩ := he
        have l1 : W1.heap[w.heap.size + 1]? = some (.loop (rec .ready none)) := (hb1.block _ hlt).trans hl
        have d1 : W1.heap[w.heap.size]? = some (.deferred (some [])) := (hb1.block _ (by omega)).trans hd
        have hlt1 := (Array.getElem?_eq_some_iff.1 l1).1
        refine ⟨_, run_beginRound l1 (by rw [hrec]), ?_⟩
        have l2 : (W1.putObj (w.heap.size + 1) (.loop { rec .ready none with state := .busy })).heap[w.heap.size + 1]? = some (.loop { rec .ready none with state := .busy }) := World.putObj_heap_same hlt1
        have d2 : (W1.putObj (w.heap.size + 1) (.loop { rec .ready none with state := .busy })).heap[w.heap.size]? = some (.deferred (some [])) := (World.putObj_heap_other (by omega)).trans d1
        refine wpIn_mono (hbody _ (grown_put W1 _ _) ⟨_, l1⟩) ?_
        rintro e a3 W3 ⟨rfl, q1, q2, q3, q4⟩
        have l3 := q1.same _ _ (by omega) l2 rfl
        have d3 := q1.same _ _ (Nat.le_refl _) d2 rfl
        have hr := run_endRound (P := P) none l3
        rw [hrec] at hr
        have hg2 := grown_put W1 (w.heap.size + 1) (.loop { rec .ready none with state := .busy })
        have hb12 : Below w0.heap.size B (W1.putObj (w.heap.size + 1) (.loop { rec .ready none with state := .busy })) := (hb1.mono (by have := vB.size; omega)).grown hg2 (by omega) (fun k e => by cases e; omega)
        refine ⟨_, _, hr, rfl, ⟨hI.putObj _ q2 (by omega) l3 rfl, ?_, (World.putObj_heap_other (by omega)).trans d3⟩, ?_, ?_⟩
        · have := World.putObj_heap_same (o := .loop (rec .ready none)) (Array.getElem?_eq_some_iff.1 l3).1
          rw [hrec] at this ⊢
          exact this
        · exact (hb12.trans q3).grown (grown_put W3 _ _) (Nat.le_trans (show w0.heap.size ≤ B.heap.size by omega) (Nat.le_trans hb12.size q3.size)) (fun k e => by cases e; omega)
        · intro k hk1 hk2
          rw [World.putObj_heap_other (by omega), q4 k hk1 hk2, World.putObj_heap_other (by omega), hb1.block k hk2]
      | _ => exact he.elim
    · rintro e W2 ⟨⟨v, rfl⟩, ⟨hi, hl, hd⟩, hEnd⟩
      have he := run_endLoop (P := P) hl (by rw [hrec]; simp)
      rw [hrec] at he
      have hW2 : w.heap.size + 1 < W2.heap.size := (Array.getElem?_eq_some_iff.1 hl).1
      refine ⟨none, _, he, hdone _ _ (Nat.le_refl _) ⟨W2, hi, hEnd, hI.putObj _ hi (by omega) hl rfl, ?_⟩ ((World.putObj_heap_other (by omega)).trans hd)⟩
      exact (Below.refl _ W2).grown (grown_put W2 _ _) (by omega) (fun k e => by cases e; omega)

theorem Has.grown {b0 O R Bd : Nat} {w X Y : World} {pre : List Ed} {v : Value} {l : Nat} (h : Has b0 O R Bd w pre X v) (hg : X.grownBy Y (some l)) (hl : O < l) (hw : w.heap.size ≤ l) (hc : ∃ o, X.heap[l]? = some o ∧ o.isCells = false) : Has b0 O R Bd w pre Y v := by
  obtain ⟨h1, h2, h3, h4⟩ := h
  refine ⟨h1.kept hg (by simp; omega), h2.kept hg ?_, ?_, Nat.le_trans h4 hg.size⟩
  · rcases h2.2 with ⟨rfl, _⟩ | ⟨g, cap, cur, rfl, _, hgb, _⟩
    · exact .inl rfl
    · refine .inr fun e' => ?_
      obtain ⟨o, ho, hc⟩ := hc
      obtain rfl : g = l := by simpa [Value.ownBlock] using e'
      rw [hgb] at ho; cases ho; cases hc
  · exact ⟨hg.os.trans h3.os, hg.tape.trans h3.tape, hg.output.trans h3.output, Nat.le_trans h3.size hg.size, fun k hk k1 k2 => (hg.block k (Nat.lt_of_lt_of_le hk h3.size) (by simp; omega)).trans (h3.block k hk k1 k2)⟩
theorem Has.steps {b0 O R Bd : Nat} {w X Y : World} {pre : List Ed} {v : Value} (h : Has b0 O R Bd w pre X v) (hs : Steps R Bd X Y) (h1 : R < O) (h2 : Bd < O) (h3 : O < b0) : Has b0 O R Bd w pre Y v :=
  ⟨hs.boxed h1 h2 h.1, hs.row (by omega) (by omega) h.2.1, h.2.2.1.trans hs, Nat.le_trans h.2.2.2 hs.size⟩
theorem Has.own (b0 O R Bd : Nat) (w : World) (B : Nat) (hO : O < B) (hw : w.heap.size ≤ B) : OwnFrom B (fun (pre : List Ed) W => ∃ v, Has b0 O R Bd w pre W v) := by
  rintro pre X Y row ⟨v, h⟩ hg hr
  refine ⟨v, ?_⟩
  cases row with
  | some l =>
    obtain ⟨h1, h2⟩ := hr l rfl
    exact h.grown hg (by omega) (by omega) h2
  | none =>
    obtain ⟨h1, h2, h3, h4⟩ := h
    refine ⟨h1.kept hg (by simp), h2.kept hg ?_, h3.then_below (n := w.heap.size) ⟨hg.os, hg.tape, hg.output, hg.size, fun k hk => hg.block k (Nat.lt_of_lt_of_le hk h3.size) (by simp)⟩ (Nat.le_refl _), Nat.le_trans h4 hg.size⟩
    rcases h2.2 with ⟨rfl, _⟩ | ⟨g, cap, cur, rfl, _, hgb, _⟩
    · exact .inl rfl
    · exact .inr (by simp [Value.ownBlock])

set_option maxRecDepth 100000 in
set_option maxHeartbeats 4000000 in
theorem appendSeq_any (gf : Nat) (lb : Array Value) (R Bd : Nat) (E : List Ed) (End : World → Prop) (w : World) (eg : ∀ args w, (callFunc gf args).run Tryd.prog w = .ok (.enter gf args) w)
    (hR : R < w.heap.size) (hBd : Bd < w.heap.size) (hlen : E.length ≤ 2000000) (hEnd : ∀ A B, End A → Below w.heap.size A B → End B)
    (hseq : Gives Fence.wide 5 Tryd.prog gf lb (fun e : Ed => #[edV e]) R Bd E End w) :
    Calls Tryd.prog 42 #[.slice none 0 0, .func (.func gf) #[] lb] w fun e W' => ∃ v, e = .returned v ∧ W'.ownsRow w.heap.size 46 3 v E.length (edCells E) ∧ Steps R Bd w W' ∧ End W' := by
  have hro : Fence.wide.round = none := rfl
  obtain ⟨i0, hi, hz0, hz1, hz2⟩ := info_parts info46
  refine (callsIn_wide (n := 6)).1 ?_
  refine callsIn_of_wp_marks Tryd.func42 rfl trivial ?_ rfl
  simp only [Tryd.ntmps42, List.size_toArray, List.length_cons, List.length_nil, Nat.reduceAdd, Nat.reduceSub, Array.replicate_succ, Array.replicate_zero, List.push_toArray, List.append_toArray, List.nil_append, List.cons_append]
  gi_wp2_with fail
  have bO := Boxed.new w 42 (.slice none 0 0)
  have hB0 : Below w.heap.size w (w.alloc (.cells #[.slice none 0 0] 42)) := (Below.refl _ w).alloc (Nat.le_refl _) _
  have hsz1 : (w.alloc (.cells #[.slice none 0 0] 42)).heap.size = w.heap.size + 1 := by simp
  obtain ⟨w1, hw1⟩ : ∃ w1, w.alloc (.cells #[.slice none 0 0] 42) = w1 := ⟨_, rfl⟩
  rw [hw1] at bO hB0 hsz1 ⊢
  have hw1s : w1.heap.size = w.heap.size + 1 := hsz1
  refine seqEach (zs := E) (w0 := w) (R := R) (Bd := Bd) (End := End) hro (by omega) (gf := gf) (lb := lb) rfl trivial eg hB0 (by omega) (by omega) hseq (fun _ => rfl)
    (fun pre W => ∃ v, Has (w.heap.size + 1) w.heap.size R Bd w pre W v) ?hI ?hIS ?h0 ?round ?done
  case hI => exact Has.own _ _ _ _ _ _ (by omega) (by omega)
  case hIS => exact fun pre A B hs ⟨v, h⟩ => ⟨v, h.steps hs hR hBd (by omega)⟩
  case h0 => exact ⟨_, bO, World.ownsRow_nil _ _ _ _, Steps.of_below hB0, by omega⟩
  case round =>
    rintro l pre x A B ⟨v, hA⟩ hs hl hp
    have hB := hA.steps hs hR hBd (by omega)
    simp only [edV]
    gi_wp2
    refine ⟨(Below.refl _ B).alloc (Nat.le_refl _) _, fun W2 hg ⟨r, hr⟩ => ?_⟩
    obtain ⟨W1, hW1⟩ : ∃ W1, B.alloc (.cells #[.int .i64 x.fr, .int .i64 x.tt, .string x.tx] 46) = W1 := ⟨_, rfl⟩
    have hnew : W1.heap[B.heap.size]? = some (.cells #[.int .i64 x.fr, .int .i64 x.tt, .string x.tx] 46 (0, 0)) := by rw [← hW1]; exact World.alloc_heap_new B _
    have hb1 : Below B.heap.size B W1 := by rw [← hW1]; exact (Below.refl _ B).alloc (Nat.le_refl _) _
    have hs1 : W1.heap.size = B.heap.size + 1 := by rw [← hW1]; simp
    rw [hW1] at hg hr
    clear hW1
    have hlB : l < B.heap.size := by
      have h1 := (Array.getElem?_eq_some_iff.1 hr).1
      by_cases h2 : l = B.heap.size
      · rw [h2, hnew] at hr; simp at hr
      · omega
    obtain ⟨hv, hrow, hst, hsz⟩ := (hB.steps (Steps.of_below hb1) hR hBd (by omega)).grown hg (by omega) (by omega) ⟨_, hr, rfl⟩
    have hbx : W2.heap[B.heap.size]? = some (.cells #[.int .i64 x.fr, .int .i64 x.tt, .string x.tx] 46 (0, 0)) := (hg.block _ (by omega) (by simp; omega)).trans hnew
    have hsA : w.heap.size < A.heap.size := hA.1.lt
    have hsAB := hs.size
    have hs2 := hg.size
    have hgA : ∀ k, some k = v.ownBlock → k < A.heap.size := by
      intro k hk
      rcases hA.2.1.2 with ⟨rfl, _⟩ | ⟨g, cap, cur, rfl, _, hgb, _⟩
      · simp [Value.ownBlock] at hk
      · obtain rfl : k = g := by simpa [Value.ownBlock] using hk
        exact (Array.getElem?_eq_some_iff.1 hgb).1
    have c0 : W2.cell? ⟨B.heap.size, 0, none⟩ = some (.int .i64 x.fr) := by rw [Lib.cell_of_heap hbx]; rfl
    have c1 : W2.cell? ⟨B.heap.size, 1, none⟩ = some (.int .i64 x.tt) := by rw [Lib.cell_of_heap hbx]; rfl
    have c2 : W2.cell? ⟨B.heap.size, 2, none⟩ = some (.string x.tx) := by rw [Lib.cell_of_heap hbx]; rfl
    have hc := hv.cell
    have hpl : pre.length + 1 ≤ 2000000 := by
      have := hp.length_le
      simp at this
      omega
    have hnews : ∀ j u, [Value.int .i64 x.fr, .int .i64 x.tt, .string x.tx][j]? = some u → (W2.alloc (.cells #[.int .i64 x.fr, .int .i64 x.tt, .string x.tx] 46)).cell? ((⟨W2.heap.size, 0, none⟩ : Addr).add j) = some u := fun j u hj => by
      have e2 : (⟨W2.heap.size, 0, none⟩ : Addr).add j = ⟨W2.heap.size, j, none⟩ := by unfold Addr.add; split <;> simp_all
      rw [e2]
      exact box_cell W2 _ _ _ _ (by simpa using hj)
    have HNEWS := Lib.hid hnews
    have HST := Lib.hid hst
    have HGA := Lib.hid hgA
    have HS1 := Lib.hid hs1
    have HW1S := Lib.hid hw1s
    have HBX := Lib.hid hbx
    have HROW := Lib.hid hrow
    have HV := Lib.hid hv
    clear hnews hst hgA hnew hg hr hs1 hw1s hsz1 hbx hrow hv hA hB
    gi_wp2_with (gi_at_builtin; refine wpListIn_append_own _ rfl _ _ 42 rfl (w.heap.size + 1) 46 i0 (.agg #[.int .i64 0, .int .i64 0, .string ⟨#[]⟩]) 3 32 Tryd.underlying42 hi hz0 hz1 hz2 rfl (by decide) _ _ _ rfl (HROW.out.alloc _) ⟨W2.heap.size, 0, none⟩ 1 1 [.int .i64 x.fr, .int .i64 x.tt, .string x.tx] rfl rfl HNEWS.out (by simp [Value.oneCell']) (by unfold maxLen; omega) (by omega) (by rw [World.size_alloc]; omega) ?_; intro v' w3 hown' hgrow _; obtain ⟨g', cap', rfl⟩ := ownsRow_succ hown'; obtain ⟨hv1, hv2, hr2, hk2, hb2⟩ := HV.out.appended (n₀ := w.heap.size) (by decide) (ownsRow_base HROW.out (by omega)) (by omega) (Nat.le_refl _) (ownsRow_base hown' (by omega)) hgrow; have hc1 := hv1.cell; have hf1 := hv1.frozen)
    refine ⟨hk2.from _, ⟨_, hv2, ?_, HST.out.then_below hb2 (Nat.le_refl _), Nat.le_trans hsz hb2.size⟩, fun k k1 k2 => ?_⟩
    · rw [List.length_append, edCells_snoc]
      exact hown'.kept (grownBy_setCell' w3 w.heap.size _) (.inr (hv1.not_row (by decide) hown').symm)
    · have hs1 := HS1.out
      rw [Below.heap_setCell _ _ _ _ (by show k ≠ w.heap.size; omega), hgrow.block k (by rw [World.size_alloc]; omega) (fun e => by have := HGA.out k e; omega), Below.heap_alloc _ _ _ (by omega)]
  case done =>
    rintro D W hD ⟨W0, ⟨v0, h0⟩, hEnd0, ⟨v, hv, hrow, hst, hsz⟩, hb⟩ hK
    have hc := hv.cell
    have HST := Lib.hid hst
    have HROW := Lib.hid hrow
    have HE := Lib.hid (hEnd _ _ hEnd0 (hb.mono (by omega)))
    clear hst hrow hEnd0 h0 hb
    gi_wp2
    refine ⟨by simp, .inl ⟨_, _, rfl, run_takeDeferred hK, ?_⟩⟩
    have hp : Below w.heap.size W (W.putObj D (.deferred none)) := (Below.refl _ W).grown (grown_put W _ _) (by omega) (fun k e => by cases e; omega)
    exact ⟨_, results_tmp rfl _ _ _, v, rfl, ownsRow_putObj (ownsRow_base HROW.out (by omega)) _ hK rfl, HST.out.then_below hp (Nat.le_refl _), hEnd _ _ HE.out hp⟩

theorem collect_any (gf : Nat) (lb : Array Value) (R Bd : Nat) (E : List Ed) (End : World → Prop) (w : World) (eg : ∀ args w, (callFunc gf args).run Tryd.prog w = .ok (.enter gf args) w)
    (hR : R < w.heap.size) (hBd : Bd < w.heap.size) (hlen : E.length ≤ 2000000) (hEnd : ∀ A B, End A → Below w.heap.size A B → End B)
    (hseq : Gives Fence.wide 5 Tryd.prog gf lb (fun e : Ed => #[edV e]) R Bd E End w) :
    Calls Tryd.prog 27 #[.func (.func gf) #[] lb] w fun e W' => ∃ v, e = .returned v ∧ W'.ownsRow w.heap.size 46 3 v E.length (edCells E) ∧ Steps R Bd w W' ∧ End W' := by
  have H := Lib.hid (appendSeq_any gf lb R Bd E End w eg hR hBd hlen hEnd hseq)
  clear hseq hEnd eg
  go_enter Tryd.func27, Tryd.ntmps27
  go_wp2_with fail
  refine H.out.mono ?_
  rintro e w1 ⟨v, rfl, h1, h2, h3⟩
  have H1 := Lib.hid h1
  have H2 := Lib.hid h2
  have H3 := Lib.hid h3
  clear h1 h2 h3
  go_wp2
  go_ret
  exact ⟨_, rfl, H1.out, H2.out, H3.out⟩

end Go.Proofs.YtbodemkmjemdjaaDoor
