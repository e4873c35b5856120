/-
  Edits, changes and files as they lie in memory; what next and whole answer.
-/
import Derived.Test.YtbodemkmjemdjaaDoorLines
import Derived.Test.YtbodemkmjemdjaaDoorPath
import Derived.Test.YtbodemkmjemdjaaDoorBuilder
namespace Go.Proofs.YtbodemkmjemdjaaDoor
open Go.RowKit

structure Ed where
  fr : Int
  tt : Int
  tx : ByteArray
structure Chg where
  name : ByteArray
  eds : List Ed
structure Fil where
  name : ByteArray
  text : ByteArray

/-- What lies is no greater than what any statement lets in. -/
def Ed.fits (e : Ed) : Prop := -9223372036854775808 ≤ e.fr ∧ e.fr ≤ 9223372036854775807 ∧ -9223372036854775808 ≤ e.tt ∧ e.tt ≤ 9223372036854775807 ∧ e.tx.size ≤ 2000000
def EdsAt (w : World) (v : Value) (E : List Ed) : Prop :=
  ∃ a c, v = .slice a E.length c ∧ E.length ≤ c ∧ E.length ≤ 2000000 ∧ (∀ e ∈ E, e.fits) ∧ (E = [] ∨ ∃ b o, a = some ⟨b, o, none⟩ ∧ b < w.heap.size ∧ ∀ k e, E[k]? = some e →
    w.cell? ⟨b, o + k * 3, none⟩ = some (.int .i64 e.fr) ∧ w.cell? ⟨b, o + k * 3 + 1, none⟩ = some (.int .i64 e.tt) ∧ w.cell? ⟨b, o + k * 3 + 2, none⟩ = some (.string e.tx))
def ChgsAt (w : World) (v : Value) (C : List Chg) : Prop :=
  ∃ a c, v = .slice a C.length c ∧ C.length ≤ c ∧ c ≤ 9223372036854775807 ∧ C.length ≤ 2000000 ∧ (∀ x ∈ C, x.name.size ≤ 2000000) ∧ (C = [] ∨ ∃ b o, a = some ⟨b, o, none⟩ ∧ b < w.heap.size ∧ ∀ k x, C[k]? = some x →
    w.cell? ⟨b, o + k * 2, none⟩ = some (.string x.name) ∧ ∃ ev, w.cell? ⟨b, o + k * 2 + 1, none⟩ = some ev ∧ EdsAt w ev x.eds)
def FilsAt (w : World) (v : Value) (L : List Fil) : Prop :=
  ∃ a c, v = .slice a L.length c ∧ L.length ≤ c ∧ L.length ≤ 2000000 ∧ (∀ x ∈ L, x.name.size ≤ 2000000 ∧ x.text.size ≤ 2000000) ∧ (L = [] ∨ ∃ b o, a = some ⟨b, o, none⟩ ∧ b < w.heap.size ∧ ∀ k x, L[k]? = some x →
    w.cell? ⟨b, o + k * 2, none⟩ = some (.string x.name) ∧ w.cell? ⟨b, o + k * 2 + 1, none⟩ = some (.string x.text))

theorem EdsAt.later {w w' : World} {v : Value} {E : List Ed} (h : EdsAt w v E) (hb : Below w.heap.size w w') : EdsAt w' v E := by
  obtain ⟨a, c, hv, hc, hl, hf, h⟩ := h
  refine ⟨a, c, hv, hc, hl, hf, ?_⟩
  rcases h with h | ⟨b, o, ha, hlt, hk⟩
  · exact .inl h
  · refine .inr ⟨b, o, ha, Nat.lt_of_lt_of_le hlt hb.size, fun k e he => ?_⟩
    obtain ⟨h1, h2, h3⟩ := hk k e he
    exact ⟨cell_later hb h1, cell_later hb h2, cell_later hb h3⟩
theorem ChgsAt.later {w w' : World} {v : Value} {C : List Chg} (h : ChgsAt w v C) (hb : Below w.heap.size w w') : ChgsAt w' v C := by
  obtain ⟨a, c, hv, hc, hl0, hl, hf, h⟩ := h
  refine ⟨a, c, hv, hc, hl0, hl, hf, ?_⟩
  rcases h with h | ⟨b, o, ha, hlt, hk⟩
  · exact .inl h
  · refine .inr ⟨b, o, ha, Nat.lt_of_lt_of_le hlt hb.size, fun k e he => ?_⟩
    obtain ⟨h1, ev, h2, h3⟩ := hk k e he
    exact ⟨cell_later hb h1, ev, cell_later hb h2, h3.later hb⟩
theorem FilsAt.later {w w' : World} {v : Value} {L : List Fil} (h : FilsAt w v L) (hb : Below w.heap.size w w') : FilsAt w' v L := by
  obtain ⟨a, c, hv, hc, hl, hf, h⟩ := h
  refine ⟨a, c, hv, hc, hl, hf, ?_⟩
  rcases h with h | ⟨b, o, ha, hlt, hk⟩
  · exact .inl h
  · refine .inr ⟨b, o, ha, Nat.lt_of_lt_of_le hlt hb.size, fun k e he => ?_⟩
    obtain ⟨h1, h2⟩ := hk k e he
    exact ⟨cell_later hb h1, cell_later hb h2⟩

theorem below_drew {n : Nat} {w w' : World} (h : Below n w w') : Below n w w'.drew := ⟨h.os, h.tape, h.output, h.size, h.block⟩

theorem box_cell (w : World) (cs : Array Value) (t : TypeId) (j : Nat) (v : Value) (h : cs[j]? = some v) : (w.alloc (.cells cs t)).cell? ⟨w.heap.size, j, none⟩ = some v := by
  unfold World.cell?
  rw [heap_alloc_new]
  exact h

theorem empty_of_size {s : ByteArray} (h : s.size = 0) : s.toList.isEmpty = true := by
  rw [ByteArray.toList_eq]
  simp [List.eq_nil_of_length_eq_zero (show s.data.toList.length = 0 by simpa using h)]
theorem full_of_size {s : ByteArray} (h : s.size ≠ 0) : s.toList.isEmpty = false := by
  rw [ByteArray.toList_eq]
  cases e : s.data.toList with
  | nil =>
    have : s.data.toList.length = 0 := by rw [e]; rfl
    exact (h (by simpa using this)).elim
  | cons x l => rfl

/-- May an edit stand behind one that ended at this line? -/
def nextF (e : Ed) (last : Int) : Bool := decide (last < e.fr) && decide (0 ≤ e.fr) && decide (e.fr ≤ e.tt) && decide (e.tt ≤ 65536) && (decide (e.fr < e.tt) || decide (e.tx.size ≠ 0))

set_option maxHeartbeats 4000000 in
theorem next_any (e : Ed) (last : Int) (w : World) :
    Calls Tryd.prog 30 #[.agg #[.int .i64 e.fr, .int .i64 e.tt, .string e.tx], .int .i64 last] w fun r w' => r = .returned (.bool (nextF e last)) ∧ Below w.heap.size w w' := by
  obtain ⟨f, t, x⟩ := e
  have hB : Below w.heap.size w (w.alloc (.cells #[.int .i64 f, .int .i64 t, .string x] 46)) := (Below.refl _ w).alloc (Nat.le_refl _) _
  by_cases h1 : last < f
  · by_cases h2 : 0 ≤ f
    · by_cases h3 : f ≤ t
      · by_cases h4 : t ≤ 65536
        · by_cases h5 : f < t
          · have he : nextF ⟨f, t, x⟩ last = true := by simp [nextF, *]
            rw [he]
            go_enter Tryd.func30, Tryd.ntmps30
            go_wp2
            go_ret
            exact ⟨rfl, hB⟩
          · by_cases h6 : x.size = 0
            · have he : nextF ⟨f, t, x⟩ last = false := by simp [nextF, *]
              rw [he]
              have h7 := empty_of_size h6
              go_enter Tryd.func30, Tryd.ntmps30
              go_wp2
              go_ret
              exact ⟨rfl, hB⟩
            · have he : nextF ⟨f, t, x⟩ last = true := by simp [nextF, *]
              rw [he]
              have h7 := full_of_size h6
              go_enter Tryd.func30, Tryd.ntmps30
              go_wp2
              go_ret
              exact ⟨rfl, hB⟩
        · have he : nextF ⟨f, t, x⟩ last = false := by simp [nextF, *]
          rw [he]
          have g4 : decide (t ≤ 65536) = false := by simpa using h4
          go_enter Tryd.func30, Tryd.ntmps30
          go_wp2
          go_ret
          exact ⟨rfl, hB⟩
      · have he : nextF ⟨f, t, x⟩ last = false := by simp [nextF, *]
        rw [he]
        have g3 : decide (f ≤ t) = false := by simpa using h3
        go_enter Tryd.func30, Tryd.ntmps30
        go_wp2
        go_ret
        exact ⟨rfl, hB⟩
    · have he : nextF ⟨f, t, x⟩ last = false := by simp [nextF, *]
      rw [he]
      have g2 : decide (0 ≤ f) = false := by simpa using h2
      go_enter Tryd.func30, Tryd.ntmps30
      go_wp2
      go_ret
      exact ⟨rfl, hB⟩
  · have he : nextF ⟨f, t, x⟩ last = false := by simp [nextF, *]
    rw [he]
    have g1 : decide (last < f) = false := by simpa using h1
    go_enter Tryd.func30, Tryd.ntmps30
    go_wp2
    go_ret
    exact ⟨rfl, hB⟩

/-- Does a text end with a byte 10, or is it empty? -/
def wholeF (s : ByteArray) : Bool := decide (s.size = 0) || Lib.hasSuffix s.data.toList [10]

set_option maxHeartbeats 1000000 in
theorem whole_any (s : ByteArray) (hs : s.size ≤ 9000000) (w : World) : Calls Tryd.prog 48 #[.string s] w fun r w' => r = .returned (.bool (wholeF s)) ∧ w' = w := by
  by_cases h : s.size = 0
  · have he : wholeF s = true := by simp [wholeF, h]
    rw [he]
    have h7 := empty_of_size h
    go_enter Tryd.func48, Tryd.ntmps48
    go_wp2
    go_ret
    exact ⟨rfl, rfl⟩
  · have he : wholeF s = Lib.hasSuffix s.data.toList [10] := by simp [wholeF, h]
    rw [he]
    have h7 := full_of_size h
    have hsx := Tryd.strings_HasSuffix s ⟨#[10]⟩ w (by omega)
    have HSX := Lib.hid hsx
    clear hsx
    go_enter Tryd.func48, Tryd.ntmps48
    go_wp2_with (first | (go_at_call 22; refine HSX.out.mono ?_; rintro e w4 ⟨rfl, rfl⟩) | go_in)
    go_ret
    exact ⟨rfl, rfl⟩

end Go.Proofs.YtbodemkmjemdjaaDoor
