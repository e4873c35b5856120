/-
  The reference's scope in memory; what its New, Open and IsType do.
-/
import Derived.Test.YtanblanoaahcfaaCommon
namespace Go.Proofs.Ytanblanoaahcfaa
open Go.RowKit Go.ChangeMaps Go.MapKept Go.WideMaps

/-- What was declared: block, name, type. -/
abbrev SaidT := Nat × ByteArray × Bool

def cellsS (l : List SaidT) : List Value := l.flatMap fun m => [.int .i64 m.1, .string m.2.1, .bool m.2.2]
theorem cellsS_length (l : List SaidT) : (cellsS l).length = l.length * 3 := by
  induction l with
  | nil => rfl
  | cons x l ih => simp only [cellsS, List.flatMap_cons, List.length_append, List.length_cons] at ih ⊢; rw [ih]; simp; omega
theorem cellsS_append (a b : List SaidT) : cellsS (a ++ b) = cellsS a ++ cellsS b := by simp [cellsS]
theorem cellsS_one (x : SaidT) : cellsS [x] = [.int .i64 x.1, .string x.2.1, .bool x.2.2] := by simp [cellsS]

theorem cellsS_at (l : List SaidT) (i : Nat) (x : SaidT) (h : l[i]? = some x) : (cellsS l)[i * 3]? = some (.int .i64 x.1) ∧ (cellsS l)[i * 3 + 1]? = some (.string x.2.1) ∧ (cellsS l)[i * 3 + 2]? = some (.bool x.2.2) := by
  have hi : i < l.length := (List.getElem?_eq_some_iff.1 h).1
  have hx : l = l.take i ++ (x :: l.drop (i + 1)) := by
    have h1 : l[i] = x := (List.getElem?_eq_some_iff.1 h).2
    rw [← h1, ← List.drop_eq_getElem_cons hi, List.take_append_drop]
  have hlen : (cellsS (l.take i)).length = i * 3 := by rw [cellsS_length, List.length_take, Nat.min_eq_left (by omega)]
  have hc : cellsS l = cellsS (l.take i) ++ ([.int .i64 x.1, .string x.2.1, .bool x.2.2] ++ cellsS (l.drop (i + 1))) := by
    conv => lhs; rw [hx]
    rw [cellsS_append]; rfl
  rw [hc]
  refine ⟨?_, ?_, ?_⟩
  · rw [List.getElem?_append_right (by omega), hlen, Nat.sub_self]; rfl
  · rw [List.getElem?_append_right (by omega), hlen, show i * 3 + 1 - i * 3 = 1 from by omega]; rfl
  · rw [List.getElem?_append_right (by omega), hlen, show i * 3 + 2 - i * 3 = 2 from by omega]; rfl

structure RefAt (w : World) (rb many : Nat) (v : Value) (all : List SaidT) (ρ : Nat → Option Role) : Prop where
  str : w.heap[rb]? = some (.cells #[.int .i64 many, v] 35 (0, 0))
  row : w.ownsRow 0 57 3 v all.length (cellsS all)
  nil : all = [] → v = .slice none 0 0
  ρs : ρ rb = some .str
  ρv : ∀ g, v.ownBlock = some g → ρ g = some .bv
  lt : ∀ k, ρ k ≠ none → k < w.heap.size

theorem RefAt.c0 {w rb many v all ρ} (h : RefAt w rb many v all ρ) : w.cell? ⟨rb, 0, none⟩ = some (.int .i64 many) := by simp [World.cell?, h.str]
theorem RefAt.c1 {w rb many v all ρ} (h : RefAt w rb many v all ρ) : w.cell? ⟨rb, 1, none⟩ = some v := by simp [World.cell?, h.str]
theorem RefAt.f0 {w rb many v all ρ} (h : RefAt w rb many v all ρ) : w.frozen? ⟨rb, 0, none⟩ = false := by simp [World.frozen?, h.str]
theorem RefAt.f1 {w rb many v all ρ} (h : RefAt w rb many v all ρ) : w.frozen? ⟨rb, 1, none⟩ = false := by simp [World.frozen?, h.str]

theorem RefAt.frame {w w' : World} {rb many v all ρ} (h : RefAt w rb many v all ρ) (hs : w.heap.size ≤ w'.heap.size) (hb : ∀ k, ρ k ≠ none → w'.heap[k]? = w.heap[k]?) : RefAt w' rb many v all ρ where
  str := (hb rb (by rw [h.ρs]; simp)).trans h.str
  row := ownsRow_of_block h.row fun g hg => hb g (by rw [h.ρv g hg]; simp)
  nil := h.nil
  ρs := h.ρs
  ρv := h.ρv
  lt k hk := Nat.lt_of_lt_of_le (h.lt k hk) hs

/-- The cells of an element. -/
theorem RefAt.el {w rb many v all ρ} (h : RefAt w rb many v all ρ) (i : Nat) (x : SaidT) (hx : all[i]? = some x) :
    ∃ g c, v = .slice (some ⟨g, 0, none⟩) all.length c ∧ w.cell? ⟨g, i * 3, none⟩ = some (.int .i64 x.1) ∧ w.cell? ⟨g, i * 3 + 1, none⟩ = some (.string x.2.1) ∧ w.cell? ⟨g, i * 3 + 2, none⟩ = some (.bool x.2.2) := by
  have hi : i < all.length := (List.getElem?_eq_some_iff.1 hx).1
  obtain ⟨g, c, rfl, _, _⟩ := h.row.form (by omega)
  obtain ⟨e0, e1, e2⟩ := cellsS_at all i x hx
  have c0 := h.row.cells (g := g) rfl _ _ e0
  have c1 := h.row.cells (g := g) rfl _ _ e1
  have c2 := h.row.cells (g := g) rfl _ _ e2
  rw [cellAdd] at c0 c1 c2
  exact ⟨g, c, rfl, c0, c1, c2⟩

/-- The reference's scope whose struct lies at rb. -/
def Rf (w : World) (rb : Nat) (ρ : Nat → Option Role) (many : Nat) (all : List SaidT) : Prop := ∃ v, RefAt w rb many v all ρ

theorem Rf.frame {w w' : World} {rb many all ρ} (h : Rf w rb ρ many all) (hs : w.heap.size ≤ w'.heap.size) (hb : ∀ k, ρ k ≠ none → w'.heap[k]? = w.heap[k]?) : Rf w' rb ρ many all := by
  obtain ⟨v, h⟩ := h
  exact ⟨v, h.frame hs hb⟩
theorem Rf.lt {w : World} {rb many all ρ} (h : Rf w rb ρ many all) : ∀ k, ρ k ≠ none → k < w.heap.size := by
  obtain ⟨v, h⟩ := h
  exact h.lt
theorem Rf.drewN {w : World} {rb many all ρ} (h : Rf w rb ρ many all) (n : Nat) : Rf (w.drewN n) rb ρ many all := h.frame (Nat.le_refl _) (fun _ _ => rfl)

theorem Rf.other {w w' : World} {rb many all ρ2} {ρ ρ' : Nat → Option Role} (h : Rf w rb ρ2 many all) (hm : Moves w w' ρ ρ') (hd : ∀ k, ρ2 k ≠ none → ρ k = none) : Rf w' rb ρ2 many all ∧ ∀ k, ρ2 k ≠ none → ρ' k = none := by
  refine ⟨h.frame hm.turns.size (fun k hk => hm.turns.block k (h.lt k hk) (hd k hk)), fun k hk => ?_⟩
  cases e : ρ' k with
  | none => rfl
  | some r =>
    rcases hm.old k (by rw [e]; simp) with h1 | h1
    · exact (h1 (hd k hk)).elim
    · have := h.lt k hk; omega

/-- What a call of the reference leaves. -/
def GoesR (w : World) (rb : Nat) (ρ : Nat → Option Role) (many : Nat) (all : List SaidT) (w' : World) : Prop := ∃ ρ', Rf w' rb ρ' many all ∧ Moves w w' ρ ρ'

/-! ### New -/
set_option maxHeartbeats 400000 in
theorem newR_any (w : World) : Calls Try.prog 13 #[] w fun e w' => e = .returned (.agg #[.int .i64 1, .slice none 0 0]) ∧ Below w.heap.size w w' := by
  go_enter Try.func13, Try.ntmps13
  go_wp2
  refine bodyPost_ret (v := .agg #[.int .i64 1, .slice none 0 0]) (by simp [results, Try.results13, go_sem]) rfl ⟨rfl, ?_⟩
  exact (Below.refl _ w).alloc (Nat.le_refl _) _

/-! ### Open -/
theorem Rf.setMany {w : World} {rb m v all ρ} (h : RefAt w rb m v all ρ) (m' : Nat) : GoesR w rb ρ m' all (w.setCell ⟨rb, 0, none⟩ (.int .i64 m')) := by
  have hlt : rb < w.heap.size := h.lt rb (by rw [h.ρs]; simp)
  refine ⟨ρ, ⟨v, ⟨by simp [World.setCell, Array.getElem?_modify, h.str], ?_, h.nil, h.ρs, h.ρv, fun k hk => by simpa [World.setCell] using h.lt k hk⟩⟩, ⟨⟨rfl, rfl, rfl, by simp [World.setCell], fun k hk hr => ?_⟩, fun k hk => .inl hk⟩⟩
  · exact ownsRow_of_block h.row fun g hg => Below.heap_setCell _ _ _ _ (by
      rintro rfl
      have h1 := h.ρv g hg
      have h2 := h.ρs
      rw [h1] at h2; cases h2)
  · exact Below.heap_setCell _ _ _ _ (by rintro rfl; rw [h.ρs] at hr; cases hr)

set_option maxHeartbeats 400000 in
theorem openR_full {w : World} {rb m v all ρ} (h : RefAt w rb m v all ρ) (hl : ((m : Int) == 65536) = true) :
    Calls Try.prog 14 #[.pointer (some ⟨rb, 0, none⟩)] w fun e w' => e = .returned (.int .i64 4) ∧ w = w' := by
  have c0 := h.c0
  have H := Lib.hid h; clear h
  go_enter Try.func14, Try.ntmps14
  go_wp2
  go_ret
  exact ⟨rfl, rfl⟩

set_option maxHeartbeats 400000 in
theorem openR_room {w : World} {rb m v all ρ} (h : RefAt w rb m v all ρ) (hl : ((m : Int) == 65536) = false) (hm : m < 1000000) :
    Calls Try.prog 14 #[.pointer (some ⟨rb, 0, none⟩)] w fun e w' => e = .returned (.int .i64 0) ∧ w.setCell ⟨rb, 0, none⟩ (.int .i64 ((m + 1 : Nat) : Int)) = w' := by
  have c0 := h.c0
  have f0 := h.f0
  have H := Lib.hid h; clear h
  have hw : IntKind.i64.wrap ((m : Int) + 1) = ((m + 1 : Nat) : Int) := by rw [IntKind.wrap_i64]; omega
  go_enter Try.func14, Try.ntmps14
  go_wp2
  go_ret
  exact ⟨rfl, rfl⟩

theorem openR {w : World} {rb m all ρ} (h : Rf w rb ρ m all) (hm : m < 1000000) :
    Calls Try.prog 14 #[.pointer (some ⟨rb, 0, none⟩)] w fun e w' => e = .returned (.int .i64 (if m = 65536 then 4 else 0)) ∧ GoesR w rb ρ (if m = 65536 then m else m + 1) all w' := by
  obtain ⟨v, h⟩ := h
  by_cases e : m = 65536
  · rw [if_pos e, if_pos e]
    refine (openR_full h (by simp; omega)).mono fun e w' ⟨h1, h2⟩ => ⟨h1, ?_⟩
    subst h2
    exact ⟨ρ, ⟨v, h⟩, Moves.refl w ρ⟩
  · rw [if_neg e, if_neg e]
    refine (openR_room h (by simp; omega) hm).mono fun e w' ⟨h1, h2⟩ => ⟨h1, ?_⟩
    subst h2
    exact Rf.setMany h (m + 1)

end Go.Proofs.Ytanblanoaahcfaa
