/-
  What Parse answers: the changes that a text says.
-/
import Derived.Test.YtbodemkmjemdjaaDoorEdits
import Derived.Test.YtbodemkmjemdjaaDoorTwin
namespace Go.Proofs.YtbodemkmjemdjaaDoor
open Go.RowKit

theorem edits_gives (C1 C2 R Bd : Nat) (W0 : World) (lv : Value) (X : List ByteArray) (ml : Int) (hS : Src W0 lv X ml) (hR : W0.heap.size ≤ R) (hBd : W0.heap.size ≤ Bd) (hXl : X.length ≤ 9000000)
    (n1 : Nat) (hn1 : n1 ≤ X.length) (w : World) (hw : Rdr W0 C1 C2 R Bd lv n1 false w) :
    Gives Fence.wide 5 Tryd.prog 43 #[.pointer (some ⟨C1, 0, none⟩), .pointer (some ⟨C2, 0, none⟩)] (fun e : Ed => #[edV e]) R Bd (editsF X (X.length + 1) n1 (-1)).1
      (fun W' => Rdr W0 C1 C2 R Bd lv (editsF X (X.length + 1) n1 (-1)).2.1 (editsF X (X.length + 1) n1 (-1)).2.2 W') w := by
  intro l J W hW hJ hY h0
  have hl := hw.lt
  exact edits1_in l C1 C2 R Bd W0 lv X ml w.heap.size hS hR hBd hXl ⟨hl.2.2.1, hl.2.2.2, hl.1, hl.2.1⟩ n1 hn1 J hJ hY W (hw.later hW) h0

theorem makes_any (R Bd : Nat) (w : World) : Calls Tryd.prog 28 #[.pointer (some ⟨R, 0, none⟩), .pointer (some ⟨Bd, 0, none⟩)] w fun e w' =>
    e = .returned (.func (.func 43) #[] #[.pointer (some ⟨w.heap.size, 0, none⟩), .pointer (some ⟨w.heap.size + 1, 0, none⟩)]) ∧ w' = (w.alloc (.cells #[.pointer (some ⟨R, 0, none⟩)] 65)).alloc (.cells #[.pointer (some ⟨Bd, 0, none⟩)] 76) := by
  go_enter Tryd.func28, Tryd.ntmps28
  go_wp2
  go_ret
  exact ⟨rfl, rfl⟩

theorem enters43 : ∀ args w, (callFunc 43 args).run Tryd.prog w = .ok (.enter 43 args) w := enters_of Tryd.func43 (by kernel_rfl) rfl

/-- The edits that come, in a row, from the n1-th line on. -/
theorem gather_any (R Bd : Nat) (W0 : World) (lv : Value) (X : List ByteArray) (ml : Int) (hS : Src W0 lv X ml) (hR : W0.heap.size ≤ R) (hBd : W0.heap.size ≤ Bd) (hXl : X.length ≤ 9000000)
    (n1 : Nat) (hn1 : n1 ≤ X.length) (hE : (editsF X (X.length + 1) n1 (-1)).1.length ≤ 2000000) (w : World) (hlow : Below W0.heap.size W0 w) (hr : w.heap[R]? = some (.cells #[lv, .int .i64 (n1 : Int)] 67 (0, 0))) (hd : w.heap[Bd]? = some (.cells #[.bool false] 4 (0, 0))) :
    Calls Tryd.prog 27 #[.func (.func 43) #[] #[.pointer (some ⟨w.heap.size, 0, none⟩), .pointer (some ⟨w.heap.size + 1, 0, none⟩)]] ((w.alloc (.cells #[.pointer (some ⟨R, 0, none⟩)] 65)).alloc (.cells #[.pointer (some ⟨Bd, 0, none⟩)] 76)) fun e W' =>
      ∃ v, e = .returned v ∧ W'.ownsRow w.heap.size 46 3 v (editsF X (X.length + 1) n1 (-1)).1.length (edCells (editsF X (X.length + 1) n1 (-1)).1) ∧ Steps R Bd w W' ∧
        W'.heap[R]? = some (.cells #[lv, .int .i64 ((editsF X (X.length + 1) n1 (-1)).2.1 : Int)] 67 (0, 0)) ∧ W'.heap[Bd]? = some (.cells #[.bool (editsF X (X.length + 1) n1 (-1)).2.2] 4 (0, 0)) ∧ Below W0.heap.size W0 W' := by
  obtain ⟨w1, hw1⟩ : ∃ w1, w.alloc (.cells #[.pointer (some ⟨R, 0, none⟩)] 65) = w1 := ⟨_, rfl⟩
  obtain ⟨w2, hw2⟩ : ∃ w2, w1.alloc (.cells #[.pointer (some ⟨Bd, 0, none⟩)] 76) = w2 := ⟨_, rfl⟩
  have hs1 : w1.heap.size = w.heap.size + 1 := by rw [← hw1]; simp
  have hs2 : w2.heap.size = w.heap.size + 2 := by rw [← hw2]; simp [hs1]
  have hb1 : Below w.heap.size w w1 := by rw [← hw1]; exact (Below.refl _ w).alloc (Nat.le_refl _) _
  have hb2 : Below w1.heap.size w1 w2 := by rw [← hw2]; exact (Below.refl _ w1).alloc (Nat.le_refl _) _
  have hb : Below w.heap.size w w2 := hb1.trans (hb2.mono (by omega))
  have h1 : w2.heap[w.heap.size]? = some (.cells #[.pointer (some ⟨R, 0, none⟩)] 65 (0, 0)) := by
    rw [hb2.block _ (by omega), ← hw1]
    exact World.alloc_heap_new w _
  have h2 : w2.heap[w.heap.size + 1]? = some (.cells #[.pointer (some ⟨Bd, 0, none⟩)] 76 (0, 0)) := by
    rw [← hs1, ← hw2]
    exact World.alloc_heap_new w1 _
  have lt : ∀ {k : Nat} {o : Obj}, w.heap[k]? = some o → k < w.heap.size := fun h => (Array.getElem?_eq_some_iff.1 h).1
  have hrd : Rdr W0 w.heap.size (w.heap.size + 1) R Bd lv n1 false w2 := ⟨hlow.trans (hb.mono hlow.size), h1, h2, (hb.block _ (lt hr)).trans hr, (hb.block _ (lt hd)).trans hd⟩
  rw [hw1, hw2]
  have hl := hrd.lt
  refine (collect_any 43 _ R Bd _ _ w2 enters43 hl.2.2.1 hl.2.2.2 hE (fun A B h hb => h.keep hb hR hBd ⟨hl.2.2.1, hl.2.2.2, hl.1, hl.2.1⟩) (edits_gives _ _ R Bd W0 lv X ml hS hR hBd hXl n1 hn1 w2 hrd)).mono ?_
  rintro e W' ⟨v, rfl, q1, q2, q3⟩
  exact ⟨v, rfl, ownsRow_base q1 (by omega), (Steps.of_below hb).trans q2, q3.r, q3.d, q3.low⟩

/-- The changes that have come: the row, each change's edits in a row of their own. -/
def OutAt (base : Nat) (W : World) (rv : Value) (out : List Chg) : Prop :=
  ∃ xs, W.ownsRow base 44 2 rv out.length xs ∧ ∀ i x, out[i]? = some x → xs[i * 2]? = some (.string x.name) ∧ ∃ ev, xs[i * 2 + 1]? = some ev ∧ W.ownsRow base 46 3 ev x.eds.length (edCells x.eds)

theorem row_move {W W' : World} {base e size n : Nat} {v : Value} {xs : List Value} (h : W.ownsRow base e size v n xs) (hk : ∀ (k : Nat) (cur : Array Value), W.heap[k]? = some (.cells cur e (0, 0)) → W'.heap[k]? = W.heap[k]?) : W'.ownsRow base e size v n xs := by
  refine ⟨h.1, ?_⟩
  rcases h.2 with h0 | ⟨g, cap, cur, hv, hb, hg, hr⟩
  · exact .inl h0
  · exact .inr ⟨g, cap, cur, hv, hb, (hk g cur hg).trans hg, hr⟩
theorem OutAt.move {base : Nat} {W W' : World} {rv : Value} {out : List Chg} (h : OutAt base W rv out) (h1 : ∀ (k : Nat) (cur : Array Value), W.heap[k]? = some (.cells cur 44 (0, 0)) → W'.heap[k]? = W.heap[k]?)
    (h2 : ∀ (k : Nat) (cur : Array Value), W.heap[k]? = some (.cells cur 46 (0, 0)) → W'.heap[k]? = W.heap[k]?) : OutAt base W' rv out := by
  obtain ⟨xs, hr, hx⟩ := h
  refine ⟨xs, row_move hr h1, fun i x hi => ?_⟩
  obtain ⟨q1, ev, q2, q3⟩ := hx i x hi
  exact ⟨q1, ev, q2, row_move q3 h2⟩
theorem OutAt.later {base : Nat} {W W' : World} {rv : Value} {out : List Chg} (h : OutAt base W rv out) (hb : Below W.heap.size W W') : OutAt base W' rv out :=
  h.move (fun k _ hk => hb.block k (Array.getElem?_eq_some_iff.1 hk).1) (fun k _ hk => hb.block k (Array.getElem?_eq_some_iff.1 hk).1)
theorem OutAt.drew {base : Nat} {W : World} {rv : Value} {out : List Chg} (h : OutAt base W rv out) : OutAt base W.drew rv out := h
theorem OutAt.set {base : Nat} {W : World} {rv : Value} {out : List Chg} (h : OutAt base W rv out) {b o : Nat} {cs : Array Value} {t : TypeId} (hb : W.heap[b]? = some (.cells cs t (0, 0))) (ht : t ≠ 44) (ht2 : t ≠ 46) (v : Value) : OutAt base (W.setCell ⟨b, o, none⟩ v) rv out := by
  refine h.move (fun k cur hk => Below.heap_setCell _ _ _ _ ?_) (fun k cur hk => Below.heap_setCell _ _ _ _ ?_)
  · intro e
    obtain rfl : k = b := e
    rw [hb] at hk
    simp at hk
    exact ht hk.2
  · intro e
    obtain rfl : k = b := e
    rw [hb] at hk
    simp at hk
    exact ht2 hk.2
theorem OutAt.steps {base R Bd : Nat} {A B : World} {rv : Value} {out : List Chg} (h : OutAt base A rv out) (hs : Steps R Bd A B) {c1 c2 : Array Value} {t1 t2 : TypeId} (h1 : A.heap[R]? = some (.cells c1 t1 (0, 0))) (h2 : A.heap[Bd]? = some (.cells c2 t2 (0, 0)))
    (a1 : t1 ≠ 44) (a2 : t1 ≠ 46) (a3 : t2 ≠ 44) (a4 : t2 ≠ 46) : OutAt base B rv out := by
  refine h.move (fun k cur hk => hs.block k (Array.getElem?_eq_some_iff.1 hk).1 ?_ ?_) (fun k cur hk => hs.block k (Array.getElem?_eq_some_iff.1 hk).1 ?_ ?_)
  · rintro rfl; rw [h1] at hk; simp at hk; exact a1 hk.2
  · rintro rfl; rw [h2] at hk; simp at hk; exact a3 hk.2
  · rintro rfl; rw [h1] at hk; simp at hk; exact a2 hk.2
  · rintro rfl; rw [h2] at hk; simp at hk; exact a4 hk.2
theorem OutAt.nil (base : Nat) (W : World) : OutAt base W (.slice none 0 0) [] := ⟨[], World.ownsRow_nil _ _ _ _, fun i x h => by simp at h⟩

/-- What the changes hold is no greater than what any statement lets in. -/
def Chg.fits (x : Chg) : Prop := x.name.size ≤ 2000000 ∧ x.eds.length ≤ 2000000 ∧ ∀ e ∈ x.eds, e.fits
theorem OutAt.chgs {base : Nat} {W : World} {rv : Value} {out : List Chg} (h : OutAt base W rv out) (hl : out.length ≤ 2000000) (hf : ∀ x ∈ out, x.fits) : ChgsAt W rv out := by
  obtain ⟨xs, hr, hx⟩ := h
  rcases hr.2 with ⟨rfl, h0⟩ | ⟨g, cap, cur, rfl, hbg, hg, hn, hc, hs, ht⟩
  · have : out = [] := List.eq_nil_of_length_eq_zero h0
    subst this
    exact ⟨none, 0, rfl, Nat.le_refl _, Nat.zero_le _, Nat.zero_le _, (fun x hx => by cases hx), .inl rfl⟩
  · refine ⟨_, cap, rfl, hn, by unfold maxLen at hc; omega, hl, fun x hx => (hf x hx).1, .inr ⟨g, 0, rfl, (Array.getElem?_eq_some_iff.1 hg).1, fun i x hi => ?_⟩⟩
    obtain ⟨q1, ev, q2, q3⟩ := hx i x hi
    have hfx := hf x (List.mem_of_getElem? hi)
    rw [Nat.zero_add]
    exact ⟨own_cell hr q1, ev, own_cell hr q2, edsAt_of_row q3 rfl hfx.2.1 hfx.2.2⟩

theorem OutAt.snoc {base : Nat} {W W' : World} {rv rv' ev : Value} {out : List Chg} {x : Chg} {xs : List Value} (hr : W.ownsRow base 44 2 rv out.length xs)
    (hx : ∀ i y, out[i]? = some y → xs[i * 2]? = some (.string y.name) ∧ ∃ ev, xs[i * 2 + 1]? = some ev ∧ W.ownsRow base 46 3 ev y.eds.length (edCells y.eds)) (he : W.ownsRow base 46 3 ev x.eds.length (edCells x.eds))
    (hown : W'.ownsRow base 44 2 rv' (out.length + 1) (xs ++ [.string x.name, ev])) (hg : W.grownBy W' rv.ownBlock) : OutAt base W' rv' (out ++ [x]) := by
  have hm : ∀ (k : Nat) (cur : Array Value), W.heap[k]? = some (.cells cur 46 (0, 0)) → W'.heap[k]? = W.heap[k]? := by
    intro k cur hk
    refine hg.block k (Array.getElem?_eq_some_iff.1 hk).1 ?_
    rcases hr.2 with ⟨rfl, _⟩ | ⟨g, cap, c2, rfl, _, hgb, _⟩
    · simp [Value.ownBlock]
    · intro e
      obtain rfl : k = g := by simpa [Value.ownBlock] using e
      rw [hk] at hgb
      simp at hgb
  have hxl : xs.length = out.length * 2 := hr.1
  refine ⟨xs ++ [.string x.name, ev], by rw [List.length_append]; exact hown, fun i y hi => ?_⟩
  by_cases h : i < out.length
  · rw [List.getElem?_append_left h] at hi
    obtain ⟨q1, e1, q2, q3⟩ := hx i y hi
    refine ⟨?_, e1, ?_, row_move q3 hm⟩
    · rw [List.getElem?_append_left (by omega)]; exact q1
    · rw [List.getElem?_append_left (by omega)]; exact q2
  · have hi2 : i = out.length := by
      have := (List.getElem?_eq_some_iff.1 hi).1
      simp at this
      omega
    subst hi2
    obtain rfl : x = y := by simpa using hi
    refine ⟨?_, ev, ?_, row_move he hm⟩
    · rw [List.getElem?_append_right (by omega), hxl, Nat.sub_self]; rfl
    · rw [List.getElem?_append_right (by omega), hxl, show out.length * 2 + 1 - out.length * 2 = 1 by omega]; rfl

theorem joinB_mono {X : List ByteArray} {n : Nat} : (joinB (X.drop n)).length ≤ (joinB X).length := joinB_drop_le X (Nat.zero_le n)

theorem take_le (X : List ByteArray) : ∀ (m k : Nat) (t : ByteArray), k ≤ X.length → (takeF X m k t).2.1 ≤ X.length := by
  intro m
  induction m with
  | zero => intro k t h; exact h
  | succ m ih =>
    intro k t h
    unfold takeF
    split
    · rename_i hp
      unfold plusLine at hp
      simp only [Bool.and_eq_true] at hp
      exact ih _ _ (now_lt hp.1)
    · exact h

def stepAt : EdStep → Nat
  | .halts n _ => n
  | .gives _ n => n
theorem editF_le {X : List ByteArray} {n : Nat} {last : Int} (hn : n ≤ X.length) : stepAt (editF X n last) ≤ X.length := by
  by_cases hl : editLine (nowF X n) = true
  · have hlt : n < X.length := by
      unfold editLine at hl
      simp only [Bool.and_eq_true] at hl
      exact now_lt hl.1
    cases hh : headF ((nowF X n).1.extract 2 (nowF X n).1.size) with
    | none => rw [editF_head hl hh]; exact hn
    | some p =>
      obtain ⟨e0, m⟩ := p
      have htl := take_le X m (n + 1) ⟨#[]⟩ hlt
      by_cases hx : nextF ⟨e0.fr, e0.tt, signOf m⟩ last = true
      · by_cases ht : (takeF X m (n + 1) ⟨#[]⟩).2.2 = true
        · by_cases hd : dashAt X (takeF X m (n + 1) ⟨#[]⟩).2.1 = true
          · by_cases hb : dashBad X m (takeF X m (n + 1) ⟨#[]⟩).2.1 = true
            · rw [editF_bad hl hh hx ht hd hb]; exact htl
            · rw [editF_dash hl hh hx ht hd (by simpa using hb)]
              unfold dashAt at hd
              simp only [Bool.and_eq_true] at hd
              exact now_lt hd.1
          · rw [editF_full hl hh hx ht (by simpa using hd)]; exact htl
        · rw [editF_take hl hh hx (by simpa using ht)]; exact htl
      · rw [editF_next hl hh (by simpa using hx)]; exact hn
  · rw [editF_none (by simpa using hl)]; exact hn
theorem editsF_le {X : List ByteArray} : ∀ (f n : Nat) (last : Int), n ≤ X.length → (editsF X f n last).2.1 ≤ X.length
  | 0, n, last, h => h
  | f + 1, n, last, h => by
    have := editF_le (last := last) h
    unfold editsF
    cases he : editF X n last with
    | halts n' b => rw [he] at this; exact this
    | gives e n' =>
      rw [he] at this
      exact editsF_le f n' e.tt this

theorem editsF_fits {X : List ByteArray} (hX : Lined X) (hs : (joinB X).length ≤ 2000000) : ∀ (f n : Nat) (last : Int), n ≤ X.length → (editsF X f n last).1.length ≤ f ∧ (∀ e ∈ (editsF X f n last).1, e.fits)
  | 0, n, last, _ => ⟨Nat.le_refl _, fun e he => by cases he⟩
  | f + 1, n, last, hn => by
    rcases editF_said (n := n) (last := last) hX with ⟨n', b, he, hle, hb⟩ | ⟨e, n', he, h1, h2, h3, h4, h5⟩
    · simp only [editsF, he]
      exact ⟨Nat.zero_le _, fun e he => by cases he⟩
    · simp only [editsF, he]
      have hfit : e.fits := by
        simp only [nextF, Bool.and_eq_true, decide_eq_true_eq] at h2
        have := joinB_mono (X := X) (n := n)
        refine ⟨?_, ?_, ?_, ?_, ?_⟩ <;> omega
      by_cases hn' : n' ≤ X.length
      · obtain ⟨i1, i2⟩ := editsF_fits hX hs f n' e.tt hn'
        refine ⟨by simp only [List.length_cons]; omega, fun y hy => ?_⟩
        rcases List.mem_cons.1 hy with rfl | hy
        · exact hfit
        · exact i2 y hy
      · have hnil : editsF X f n' e.tt = ([], n', false) := by
          cases f with
          | zero => rfl
          | succ f =>
            have hh : editF X n' e.tt = .halts n' false := editF_none (by
              have : nowF X n' = (⟨#[]⟩, false) := by unfold nowF; rw [List.getElem?_eq_none (by omega)]
              rw [this]; rfl)
            simp only [editsF, hh]
        rw [hnil]
        refine ⟨by simp, fun y hy => ?_⟩
        obtain rfl : y = e := by simpa using hy
        exact hfit

end Go.Proofs.YtbodemkmjemdjaaDoor
