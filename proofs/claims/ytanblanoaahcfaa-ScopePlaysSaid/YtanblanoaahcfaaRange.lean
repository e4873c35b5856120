/-
  What ranging over the map of a scope does, in whatever order, and what Clone returns.
-/
import Derived.Test.YtanblanoaahcfaaMake
import Derived.Maps.RangeWalk
namespace Go.Proofs.Ytanblanoaahcfaa
open Go.RowKit Go.ChangeMaps Go.MapKept Go.WideMaps

/-- 'for k, v := range m' under way: map mb, iterator r; left: which keys are still to come; cnt: how many. -/
def MapRng (w : World) (mb r : Nat) (M : ByteArray → Option Value) (left : ByteArray → Bool) (cnt : Nat) : Prop :=
  ∃ es clock since seen c0, w.heap[mb]? = some (.map es clock) ∧ Stamped es clock ∧
    (∀ x ∈ es.toList, ∃ s : ByteArray, s.size ≤ maxLen ∧ x.key = .string s ∧ M s = some x.val ∧ left s = !seen.contains x.born) ∧
    (∀ s v, M s = some v → ∃ x ∈ es.toList, x.key = .string s ∧ x.val = v) ∧
    w.heap[r]? = some (.mapIter (some mb) since seen c0) ∧ (∀ x ∈ es.toList, x.born < since) ∧ (leftOf es seen).size = cnt ∧
    (∀ s, left s = true → M s ≠ none) ∧ since ≤ c0 ∧ since ≤ clock

def rngLeft (w : World) (mb r : Nat) : Nat :=
  match w.heap[mb]?, w.heap[r]? with
  | some (.map es _), some (.mapIter _ _ seen _) => (leftOf es seen).size
  | _, _ => 0

theorem MapRng.left_eq {w : World} {mb r M left cnt} (h : MapRng w mb r M left cnt) : rngLeft w mb r = cnt := by
  obtain ⟨es, clock, since, seen, c0, hb, _, _, _, hr, _, hc, _⟩ := h
  simp only [rngLeft, hb, hr]
  exact hc

theorem MapRng.lt {w : World} {mb r M left cnt} (h : MapRng w mb r M left cnt) : mb < w.heap.size ∧ r < w.heap.size := by
  obtain ⟨es, clock, since, seen, c0, hb, _, _, _, hr, _⟩ := h
  exact ⟨(Array.getElem?_eq_some_iff.1 hb).1, (Array.getElem?_eq_some_iff.1 hr).1⟩

theorem MapRng.ne {w : World} {mb r M left cnt} (h : MapRng w mb r M left cnt) : r ≠ mb := by
  obtain ⟨es, clock, since, seen, c0, hb, _, _, _, hr, _⟩ := h
  rintro rfl
  rw [hb] at hr; cases hr

theorem MapRng.of_blocks {w w' : World} {mb r M left cnt} (h : MapRng w mb r M left cnt) (h1 : w'.heap[mb]? = w.heap[mb]?) (h2 : w'.heap[r]? = w.heap[r]?) : MapRng w' mb r M left cnt := by
  obtain ⟨es, clock, since, seen, c0, hb, a1, a2, a3, hr, rest⟩ := h
  exact ⟨es, clock, since, seen, c0, h1.trans hb, a1, a2, a3, h2.trans hr, rest⟩

theorem MapIs.range {w : World} {mb M} (h : MapIs w mb M) :
    ∃ w' cnt, (Instr.range 40 (.map (some mb))).run Try.prog w = .ok (.pointer (some ⟨w.heap.size, 0, none⟩)) w' ∧ MapRng w' mb w.heap.size M (fun s => (M s).isSome) cnt ∧ w.grownBy w' none ∧ w'.heap.size = w.heap.size + 1 := by
  have hlt := h.lt
  obtain ⟨es, clock, hb, hst, hin, hon⟩ := h
  refine ⟨_, (leftOf es #[]).size, run_range_map w 40 9 46 mb es clock Try.underlying40 hb, ⟨es, clock, clock, #[], clock, ((MapKept.heap_alloc w _).2 mb hlt).trans hb, hst, ?_, hon, (MapKept.heap_alloc w _).1, hst.1, rfl, ?_, Nat.le_refl _, Nat.le_refl _⟩, World.grownBy_alloc w _ none, by simp⟩
  · intro x hx
    obtain ⟨s, h1, h2, h3⟩ := hin x hx
    exact ⟨s, h1, h2, h3, by simp [h3]⟩
  · intro s hs
    intro e
    simp [e] at hs

theorem key_born {es : Array MapEntry} {clock : Nat} (hst : Stamped es clock) {x e : MapEntry} (hx : x ∈ es.toList) (he : e ∈ es.toList) {s t : ByteArray} (h1 : x.key = .string s) (h2 : e.key = .string t) : decide (s = t) = (x.born == e.born) := by
  have hst' := (stamped_iff es clock).1 hst
  by_cases hbe : x.born = e.born
  · obtain rfl := born_inj hst'.2.1 hx he hbe
    rw [h1] at h2
    have : s = t := by simpa using h2
    simp [this]
  · have hk : s ≠ t := fun e0 => hbe (congrArg MapEntry.born (entry_eq_of_key hst'.2.2 hx he (by rw [h1, h2, e0])))
    simp [hbe, hk]

theorem MapRng.next {w : World} {mb r M left cnt} (h : MapRng w mb r M left cnt) (ty : TypeId) :
    (cnt = 0 ∧ (∀ s, left s = false) ∧ (Instr.next (.pointer (some ⟨r, 0, none⟩)) false ty).run Try.prog w = .ok (.tuple #[.bool false]) w) ∨
    ∃ (s : ByteArray) (v : Value) (w' : World) (cnt' : Nat), s.size ≤ maxLen ∧ left s = true ∧ M s = some v ∧ (Instr.next (.pointer (some ⟨r, 0, none⟩)) false ty).run Try.prog w = .ok (.tuple #[.bool true, .string s, v]) w' ∧
      MapRng w' mb r M (fun x => left x && !decide (x = s)) cnt' ∧ cnt' < cnt ∧ w.grownBy w' (some r) ∧ w'.heap.size = w.heap.size ∧ (Instr.entry (.pointer (some ⟨r, 0, none⟩))).run Try.prog w' = .ok (.tuple #[.string s, v]) w' := by
  have hne := h.ne
  obtain ⟨es, clock, since, seen, c0, hb, hst, hin, hon, hr, hold, rfl, hl2, hsc, hsk⟩ := h
  rcases run_next_at (P := Try.prog) w ty r mb since c0 seen es clock hr hb hold hsc with ⟨h0, hrun⟩ | ⟨e, he, w1, hal, hrun⟩
  · refine Or.inl ⟨h0, fun s => ?_, hrun⟩
    cases hk : left s
    · rfl
    · cases hM : M s with
      | none => exact (hl2 s hk hM).elim
      | some v =>
        obtain ⟨x, hx, hxk, hxv⟩ := hon s v hM
        obtain ⟨t, _, htk, _, htl⟩ := hin x hx
        rw [hxk] at htk
        have : s = t := by simpa using htk
        subst this
        rw [htl, all_seen es seen h0 x hx] at hk
        cases hk
  · obtain ⟨hem, hes⟩ := mem_left he
    obtain ⟨s, hs1, hs2, hs3, hs4⟩ := hin e hem
    have hr1 : w1.heap[r]? = some (.mapIter (some mb) since seen c0) := by rcases hal with rfl | rfl <;> exact hr
    have hb1 : w1.heap[mb]? = some (.map es clock) := by rcases hal with rfl | rfl <;> exact hb
    have hset := heap_set (o' := .mapIter (some mb) since (seen.push e.born) clock) hr1
    have hb' : (setBlock w1 r (.mapIter (some mb) since (seen.push e.born) clock)).heap[mb]? = some (.map es clock) := (hset.2 mb (fun e1 => hne e1.symm)).trans hb1
    have hent := run_entry_at (P := Try.prog) _ r mb since seen es clock e hset.1 hb' hem ((stamped_iff es clock).1 hst).2.1
    rw [hs2] at hent hrun
    refine Or.inr ⟨s, e.val, _, _, hs1, by rw [hs4, hes]; rfl, hs3, hrun,
      ⟨es, clock, since, seen.push e.born, clock, hb', hst, fun x hx => ?_, hon, hset.1, hold, rfl, fun t ht => hl2 t (by simp at ht; exact ht.1), hsk, hsk⟩, left_shrinks es seen e he, ?_, ?_, hent⟩
    · obtain ⟨t, ht1, ht2, ht3, ht4⟩ := hin x hx
      refine ⟨t, ht1, ht2, ht3, ?_⟩
      show (left t && !decide (t = s)) = _
      rw [ht4, key_born hst hx hem ht2 hs2, contains_push]
      cases seen.contains x.born <;> cases (x.born == e.born) <;> rfl
    · rcases hal with rfl | rfl <;> exact ⟨rfl, rfl, rfl, by simp [setBlock], fun i _ hi => hset.2 i (fun e1 => hi (by rw [e1]))⟩
    · rcases hal with rfl | rfl <;> simp [setBlock]

section
variable {ops : Array Oper} {rest : List Oper} {o : Oper} {a : Act} {Q : Exit → Act → World → Prop} {w : World}

theorem wpList_rng (hg : o.guard = none) (m : Operand) (hop : o.op = Op.range 40 m) (mb : Nat) (M : ByteArray → Option Value) (hm : a.eval m = .map (some mb)) (h : MapIs w mb M)
    (hK : ∀ w' cnt, MapRng w' mb w.heap.size M (fun s => (M s).isSome) cnt → w.grownBy w' none → w'.heap.size = w.heap.size + 1 → wpList Try.prog ops Q rest (a.put o.dst (.pointer (some ⟨w.heap.size, 0, none⟩))) w') :
    wpList Try.prog ops Q (o :: rest) a w := by
  refine wpList_plain hg fun K' hK' => ?_
  obtain ⟨w', cnt, hrun, r1, r2, r3⟩ := h.range
  unfold Oper.wp
  simp [execOp, hop, hm, hrun, Result.andThen]
  exact hK' _ _ (hK w' cnt r1 r2 r3)

theorem wpList_nxt (hg : o.guard = none) (it : Operand) (hop : o.op = Op.next it false) (mb r : Nat) (M : ByteArray → Option Value) (left : ByteArray → Bool) (cnt : Nat) (hit : a.eval it = .pointer (some ⟨r, 0, none⟩)) (h : MapRng w mb r M left cnt)
    (hDone : cnt = 0 → (∀ s, left s = false) → wpList Try.prog ops Q rest (a.put o.dst (.tuple #[.bool false])) w)
    (hMore : ∀ (s : ByteArray) (v : Value) (w' : World) (cnt' : Nat), s.size ≤ maxLen → left s = true → M s = some v → MapRng w' mb r M (fun x => left x && !decide (x = s)) cnt' → cnt' < cnt →
      w.grownBy w' (some r) → w'.heap.size = w.heap.size → (Instr.entry (.pointer (some ⟨r, 0, none⟩))).run Try.prog w' = .ok (.tuple #[.string s, v]) w' → wpList Try.prog ops Q rest (a.put o.dst (.tuple #[.bool true, .string s, v])) w') :
    wpList Try.prog ops Q (o :: rest) a w := by
  refine wpList_plain hg fun K' hK' => ?_
  unfold Oper.wp
  rcases h.next o.type with ⟨h0, hl, hrun⟩ | ⟨s, v, w', cnt', h1, h2, h3, hrun, h5, h6, h7, h8, h9⟩
  · simp [execOp, hop, hit, hrun, Result.andThen]
    exact hK' _ _ (hDone h0 hl)
  · simp [execOp, hop, hit, hrun, Result.andThen]
    exact hK' _ _ (hMore s v w' cnt' h1 h2 h3 h5 h6 h7 h8 h9)
end

/-! ### Clone -/
theorem ownsRow_base {w : World} {base base' e size : Nat} {v : Value} {n : Nat} {xs : List Value} (h : w.ownsRow base e size v n xs) (hb : base' ≤ base) : w.ownsRow base' e size v n xs := by
  refine ⟨h.1, ?_⟩
  rcases h.2 with hn | ⟨g, cap, cur, rfl, hb0, rest⟩
  · exact .inl hn
  · exact .inr ⟨g, cap, cur, rfl, Nat.le_trans hb hb0, rest⟩

theorem sliceNil46 (w : World) (a : Option Addr) (n c : Nat) : (binOp .eql 46 (.slice a n c) (.slice none 0 0)).run Try.prog w = .ok (.bool a.isNone) w := Lib.run_eql_slice_nil w _ _ a n c 0 0 Try.underlying46
theorem sliceNil49 (w : World) (a : Option Addr) (n c : Nat) : (binOp .eql 49 (.slice a n c) (.slice none 0 0)).run Try.prog w = .ok (.bool a.isNone) w := Lib.run_eql_slice_nil w _ _ a n c 0 0 Try.underlying49

set_option maxHeartbeats 400000 in
theorem clone22_nil (w : World) (n c : Nat) : Calls Try.prog 22 #[.slice none n c] w fun e w' => e = .returned (.slice none 0 0) ∧ w = w' := by
  have q := sliceNil46
  go_enter Try.func22, Try.ntmps22
  go_wp2
  go_ret
  exact ⟨rfl, rfl⟩

set_option maxHeartbeats 400000 in
theorem clone23_nil (w : World) (n c : Nat) : Calls Try.prog 23 #[.slice none n c] w fun e w' => e = .returned (.slice none 0 0) ∧ w = w' := by
  have q := sliceNil49
  go_enter Try.func23, Try.ntmps23
  go_wp2
  go_ret
  exact ⟨rfl, rfl⟩

def Cloned (w : World) (e size : Nat) (n : Nat) (xs : List Value) (v' : Value) (w' : World) : Prop := w'.ownsRow w.heap.size e size v' n xs ∧ Below w.heap.size w w'

theorem ownsRow_empty (w : World) (e size : Nat) : (w.alloc (.cells #[] e)).ownsRow w.heap.size e size (.slice (some ⟨w.heap.size, 0, none⟩) 0 0) 0 [] :=
  ⟨by simp, .inr ⟨w.heap.size, 0, #[], rfl, Nat.le_refl _, heap_alloc_new w _, Nat.le_refl _, by unfold maxLen; omega, by simp, by simp⟩⟩

set_option maxHeartbeats 400000 in
theorem clone22_some (w : World) (g n c : Nat) (xs : List Value) (hc : ∀ j u, xs[j]? = some u → w.cell? ⟨g, j, none⟩ = some u) (hl : xs.length = n * 2) (h1 : ∀ u ∈ xs, u.oneCell' = true) (hn : n < 1000000) :
    Calls Try.prog 22 #[.slice (some ⟨g, 0, none⟩) n c] w fun e w' => ∃ v', e = .returned v' ∧ Cloned w 48 2 n xs v' w' := by
  have q := sliceNil46
  have hb : Below w.heap.size w (w.alloc (.cells #[] 48)) := (Below.refl _ w).alloc (Nat.le_refl _) _
  have hnews : ∀ j u, xs[j]? = some u → (w.alloc (.cells #[] 48)).cell? ((⟨g, 0, none⟩ : Addr).add j) = some u := fun j u hu => by
    rw [cellAdd]; exact cell_later hb (hc j u hu)
  have HC := Lib.hid hnews; clear hnews hc
  have HL := Lib.hid hl; clear hl
  have H1 := Lib.hid h1; clear h1
  have HO := Lib.hid (ownsRow_empty w 48 2)
  obtain ⟨i0, hi, hz0, hz1, hz2⟩ := info_parts info48
  have HI := Lib.hid hi; clear hi
  have HZ := Lib.hid (And.intro hz0 (And.intro hz1 hz2)); clear hz0 hz1 hz2
  go_enter Try.func22, Try.ntmps22
  go_wp2_with (first
    | (at_builtin
       refine wpList_append_own _ rfl (.tmp 5) (.tmp 6) 46 rfl w.heap.size 48 i0 _ 2 16 Try.underlying46 HI.out HZ.out.1 HZ.out.2.1 HZ.out.2.2 rfl (by decide) _ 0 [] rfl HO.out ⟨g, 0, none⟩ n c xs rfl HL.out HC.out H1.out (by unfold maxLen; omega) (by omega) (by simp) ?_
       intro v' w1 hown1 hgrow1 _
       have HW := Lib.hid hown1
       have HG := Lib.hid (show World.grownBy _ _ (some w.heap.size) from hgrow1)
       clear hown1 hgrow1)
    | go_in)
  go_ret
  refine ⟨v', rfl, by simpa using HW.out, hb.grown HG.out hb.size (fun k hk => ?_)⟩
  have : w.heap.size = k := by simpa using hk
  omega

set_option maxHeartbeats 400000 in
theorem clone23_some (w : World) (g n c : Nat) (xs : List Value) (hc : ∀ j u, xs[j]? = some u → w.cell? ⟨g, j, none⟩ = some u) (hl : xs.length = n * 1) (h1 : ∀ u ∈ xs, u.oneCell' = true) (hn : n < 1000000) :
    Calls Try.prog 23 #[.slice (some ⟨g, 0, none⟩) n c] w fun e w' => ∃ v', e = .returned v' ∧ Cloned w 9 1 n xs v' w' := by
  have q := sliceNil49
  have hb : Below w.heap.size w (w.alloc (.cells #[] 9)) := (Below.refl _ w).alloc (Nat.le_refl _) _
  have hnews : ∀ j u, xs[j]? = some u → (w.alloc (.cells #[] 9)).cell? ((⟨g, 0, none⟩ : Addr).add j) = some u := fun j u hu => by
    rw [cellAdd]; exact cell_later hb (hc j u hu)
  have HC := Lib.hid hnews; clear hnews hc
  have HL := Lib.hid hl; clear hl
  have H1 := Lib.hid h1; clear h1
  have HO := Lib.hid (ownsRow_empty w 9 1)
  obtain ⟨i0, hi, hz0, hz1, hz2⟩ := info_parts info9
  have HI := Lib.hid hi; clear hi
  have HZ := Lib.hid (And.intro hz0 (And.intro hz1 hz2)); clear hz0 hz1 hz2
  go_enter Try.func23, Try.ntmps23
  go_wp2_with (first
    | (at_builtin
       refine wpList_append_own _ rfl (.tmp 5) (.tmp 6) 49 rfl w.heap.size 9 i0 _ 1 16 Try.underlying49 HI.out HZ.out.1 HZ.out.2.1 HZ.out.2.2 rfl (by decide) _ 0 [] rfl HO.out ⟨g, 0, none⟩ n c xs rfl HL.out HC.out H1.out (by unfold maxLen; omega) (by omega) (by simp) ?_
       intro v' w1 hown1 hgrow1 _
       have HW := Lib.hid hown1
       have HG := Lib.hid (show World.grownBy _ _ (some w.heap.size) from hgrow1)
       clear hown1 hgrow1)
    | go_in)
  go_ret
  refine ⟨v', rfl, by simpa using HW.out, hb.grown HG.out hb.size (fun k hk => ?_)⟩
  have : w.heap.size = k := by simpa using hk
  omega

theorem clone22_any (w : World) (v : Value) (n : Nat) (xs : List Value) (hown : w.ownsRow 0 48 2 v n xs) (h1 : ∀ u ∈ xs, u.oneCell' = true) (hn : n < 1000000) :
    Calls Try.prog 22 #[v] w fun e w' => ∃ v', e = .returned v' ∧ Cloned w 48 2 n xs v' w' := by
  rcases hown.2 with ⟨rfl, rfl⟩ | ⟨g, cap, cur, rfl, _, hg, _⟩
  · have : xs = [] := List.eq_nil_of_length_eq_zero (by simpa using hown.1)
    subst this
    exact (clone22_nil w 0 0).mono fun e w' ⟨a, b⟩ => ⟨_, a, by subst b; exact ⟨World.ownsRow_nil _ _ _ _, Below.refl _ _⟩⟩
  · exact clone22_some w g n cap xs (fun j u hu => by have := hown.cells (g := g) rfl j u hu; rwa [cellAdd] at this) hown.1 h1 hn

theorem clone23_any (w : World) (v : Value) (n : Nat) (xs : List Value) (hown : w.ownsRow 0 9 1 v n xs) (h1 : ∀ u ∈ xs, u.oneCell' = true) (hn : n < 1000000) :
    Calls Try.prog 23 #[v] w fun e w' => ∃ v', e = .returned v' ∧ Cloned w 9 1 n xs v' w' := by
  rcases hown.2 with ⟨rfl, rfl⟩ | ⟨g, cap, cur, rfl, _, hg, _⟩
  · have : xs = [] := List.eq_nil_of_length_eq_zero (by simpa using hown.1)
    subst this
    exact (clone23_nil w 0 0).mono fun e w' ⟨a, b⟩ => ⟨_, a, by subst b; exact ⟨World.ownsRow_nil _ _ _ _, Below.refl _ _⟩⟩
  · exact clone23_some w g n cap xs (fun j u hu => by have := hown.cells (g := g) rfl j u hu; rwa [cellAdd] at this) hown.1 h1 hn

end Go.Proofs.Ytanblanoaahcfaa
