/-
  What edit.Lines makes of a text: a row of its lines.
-/
import Derived.Test.YtbodemkmjemdjaaDoorIter
import Derived.RangeFuncWrites
import Derived.RangeFuncBox
import Derived.Maps.AppendAt
namespace Go.Proofs.YtbodemkmjemdjaaDoor
open Go.RowKit

attribute [local go_sem] Oper.semAt_some

theorem lines_hands (n : Nat) (hn : 2 ≤ n) (B : Nat) (s : ByteArray) (hs : s.size ≤ 9000000) (w : World) (hB : w.heap[B]? = some (.cells #[.string s] 9 (0, 0))) :
    Hands Fence.wide n Tryd.prog 51 #[.pointer (some ⟨B, 0, none⟩)] (fun x : ByteArray => #[Value.string x]) (KeepBox B) (BoxStep B) (linesOf s) w := fun l J W hW hJ hY h0 => by
  have hlt : B < w.heap.size := (Array.getElem?_eq_some_iff.1 hB).1
  exact lines1_in n hn l B s hs J hJ hY W ((hW.block B hlt).trans hB) h0

theorem info9 : (Tryd.prog.info? 9).map (fun i => (i.zero, i.size, i.bytes)) = some (some (.string ⟨#[]⟩), 1, 16) := by kernel_rfl

theorem linesF_length (f : Nat) (r : ByteArray) : (linesF f r).length ≤ f := by
  induction f generalizing r with
  | zero => simp [linesF]
  | succ f ih =>
    unfold linesF
    split
    · simp
    · simp only [List.length_cons]
      have := ih (r.extract (cutAt r) r.size)
      omega

/-- The lines that have come, in the row whose slice lies in the variable O. -/
def Gathers (b0 O : Nat) (w0 : World) (pre : List ByteArray) (W : World) : Prop :=
  (∃ v, Boxed W O 60 v ∧ W.ownsRow b0 9 1 v pre.length (pre.map .string) ∧ True) ∧ Below O w0 W ∧ b0 ≤ W.heap.size

theorem iter_world (s : ByteArray) (w : World) : Calls Tryd.prog 34 #[.string s] w fun e w' => e = .returned (.func (.func 51) #[] #[.pointer (some ⟨w.heap.size, 0, none⟩)]) ∧ w' = w.alloc (.cells #[.string s] 9) := by
  go_enter Tryd.func34, Tryd.ntmps34
  go_wp2
  go_ret
  exact ⟨rfl, rfl⟩

theorem ownsRow_base {w : World} {b b' e size : Nat} {v : Value} {n : Nat} {xs : List Value} (h : w.ownsRow b' e size v n xs) (hb : b ≤ b') : w.ownsRow b e size v n xs := by
  refine ⟨h.1, ?_⟩
  rcases h.2 with h0 | ⟨g, cap, cur, hv, hg, hr⟩
  · exact .inl h0
  · exact .inr ⟨g, cap, cur, hv, Nat.le_trans hb hg, hr⟩

theorem gathers_step (b0 O B : Nat) (w0 : World) (hOB : O < B) (hBb : B < b0) (pre : List ByteArray) (W1 W2 : World) (h : BoxStep B W1 W2) (hg : Gathers b0 O w0 pre W1) : Gathers b0 O w0 pre W2 := by
  obtain ⟨s, rfl⟩ := h
  obtain ⟨⟨v, hv, hr, _⟩, hB, hz⟩ := hg
  have hgr := grownBy_setCell' W1 B (.string s)
  refine ⟨⟨v, hv.kept hgr (by simp; omega), hr.kept hgr ?_, trivial⟩, hB.setCell (p := ⟨B, 0, none⟩) (Nat.le_of_lt hOB) _, by simpa [World.setCell] using hz⟩
  rcases hr.2 with ⟨rfl, _⟩ | ⟨g, cap, cur, rfl, hb, _⟩
  · exact .inl rfl
  · exact .inr (by simp [Value.ownBlock]; omega)

set_option maxRecDepth 100000 in
set_option maxHeartbeats 4000000 in
theorem lines_any (s : ByteArray) (hs : s.size ≤ 9000000) (w : World) :
    Calls Tryd.prog 20 #[.string s] w fun e w' => ∃ v, e = .returned v ∧ w'.ownsRow w.heap.size 9 1 v (linesOf s).length ((linesOf s).map .string) ∧ Below w.heap.size w w' := by
  have hro : Fence.wide.round = none := rfl
  obtain ⟨i0, hi, hz0, hz1, hz2⟩ := info_parts info9
  have hll : (linesOf s).length ≤ 9000000 := Nat.le_trans (linesF_length _ _) hs
  refine (callsIn_wide (n := 6)).1 ?_
  refine callsIn_of_wp_marks Tryd.func20 rfl trivial ?_ rfl
  simp only [Tryd.ntmps20, List.size_toArray, List.length_cons, List.length_nil, Nat.reduceAdd, Nat.reduceSub, Array.replicate_succ, Array.replicate_zero, List.push_toArray, List.append_toArray, List.nil_append, List.cons_append]
  gi_wp2_with fail
  refine ⟨trivial, ?_⟩
  refine (callsIn_wide.2 (iter_world s _)).mono ?_
  rintro e w' ⟨rfl, rfl⟩
  gi_wp2_with fail
  have bO := Boxed.new w 60 (.slice none 0 0)
  have bN := Boxed.new (w.alloc (.cells #[.slice none 0 0] 60)) 9 (.string s)
  rw [World.size_alloc] at bN
  have hB0 : Below w.heap.size w ((w.alloc (.cells #[.slice none 0 0] 60)).alloc (.cells #[.string s] 9)) := ((Below.refl _ w).alloc (Nat.le_refl _) _).alloc (by simp) _
  have hsz2 : ((w.alloc (.cells #[.slice none 0 0] 60)).alloc (.cells #[.string s] 9)).heap.size = w.heap.size + 2 := by simp
  refine forEach (zs := linesOf s) hro (by omega) (gf := 51) (lb := #[.pointer (some ⟨w.heap.size + 1, 0, none⟩)]) rfl trivial (enters_of Tryd.func51 (by kernel_rfl) rfl)
    (lines_hands (6 - 1) (by omega) (w.heap.size + 1) s hs _ bN) (fun {A B} hst k hk => ?hSt) (fun a b => b.trans a) (fun W l o' hl => World.putObj_heap_other (by omega)) (fun _ => rfl)
    (Gathers (w.heap.size + 2) w.heap.size w) ?hI (gathers_step _ _ _ _ (by omega) (by omega)) ?h0
    (fun x => { tmps := #[.string s, undef, .slice none 0 0, .pointer (some ⟨w.heap.size, 0, none⟩), .string x, .string s, .func (.func 51) #[] #[.pointer (some ⟨w.heap.size + 1, 0, none⟩)], .string x, undef, undef, undef, undef, undef], defers := [] }) ?assign ?body ?done
  case hSt =>
    obtain ⟨t, rfl⟩ := hst
    exact Below.heap_setCell _ _ _ _ (by show k ≠ w.heap.size + 1; omega)
  case hI =>
    rw [hsz2]
    exact OwnFrom.and (Own.from (holdsRow_own (w.heap.size + 2) w.heap.size 60 9 1 (fun pre : List ByteArray => pre.length) (fun pre => pre.map .string) (fun _ _ => True)) _) (OwnFrom.and (ownFrom_below (Nat.le_refl _) (by omega)) (fun _ X Y _ h hg _ => Nat.le_trans h hg.size))
  case h0 => exact ⟨⟨_, bO.alloc _, World.ownsRow_nil _ _ _ _, trivial⟩, hB0, by rw [hsz2]; exact Nat.le_refl _⟩
  case assign =>
    intro l x W K hK
    gi_wp2
    exact hK
  case body =>
    rintro l pre x W ⟨⟨v, hv, hrow, _⟩, hB, hWs⟩ hp
    have hc := hv.cell
    have hpl : pre.length + 1 ≤ 9000000 := by
      have := hp.length_le
      simp at this
      omega
    gi_wp2_with (gi_at_builtin; refine wpListIn_append_own _ rfl _ _ 60 rfl (w.heap.size + 2) 9 i0 (.string ⟨#[]⟩) 1 16 Tryd.underlying60 hi hz0 hz1 hz2 rfl (by decide) _ _ _ rfl (hrow.alloc _) ⟨W.heap.size, 0, none⟩ 1 1 [.string x] rfl rfl (cell_one_new _ _ _) (by simp [Value.oneCell']) (by unfold maxLen; omega) (by omega) (by rw [World.size_alloc]; omega) ?_; intro v' w1 hown' hgrow _; obtain ⟨g', cap', rfl⟩ := ownsRow_succ hown'; obtain ⟨hv1, hv2, hr2, hk2, hb2⟩ := hv.appended (n₀ := w.heap.size) (by decide) (ownsRow_base hrow (by omega)) (by omega) (Nat.le_refl _) (ownsRow_base hown' (by omega)) hgrow; have hc1 := hv1.cell; have hf1 := hv1.frozen)
    refine ⟨hk2.from _, ?_, ⟨_, hv2, ?_, trivial⟩, hB.trans hb2, Nat.le_trans hWs ?_⟩
    · show (w1.setCell _ _).heap[w.heap.size + 1]? = _
      rw [Below.heap_setCell _ _ _ _ (by show w.heap.size + 1 ≠ w.heap.size; omega), hgrow.block (w.heap.size + 1) (by rw [World.size_alloc]; omega) (by
        rcases hrow.2 with ⟨hv0, _⟩ | ⟨g, cap, cur, hv0, hb, _⟩
        · show some (w.heap.size + 1) ≠ v.ownBlock
          rw [hv0]; simp [Value.ownBlock]
        · show some (w.heap.size + 1) ≠ v.ownBlock
          rw [hv0]; simp [Value.ownBlock]; omega), Below.heap_alloc _ _ _ (by omega)]
    · have := hown'.kept (grownBy_setCell' w1 w.heap.size (.slice (some ⟨g', 0, none⟩) (pre.length + 1) cap')) (.inr (hv1.not_row (by decide) hown').symm)
      simpa using this
    · exact hb2.size
  case done =>
    rintro D W hD ⟨⟨v, hv, hrow, _⟩, hB, hWs⟩ hK
    have hc := hv.cell
    gi_wp2
    refine ⟨by simp, .inl ⟨_, _, rfl, run_takeDeferred hK, ?_⟩⟩
    exact ⟨_, results_tmp rfl _ _ _, v, rfl, ownsRow_putObj (ownsRow_base hrow (by omega)) _ hK rfl, hB.trans (belowK_b (w := w) (Nat.le_refl _) W D _ _ (by rw [hsz2] at hD; omega) hK rfl rfl)⟩
end Go.Proofs.YtbodemkmjemdjaaDoor
