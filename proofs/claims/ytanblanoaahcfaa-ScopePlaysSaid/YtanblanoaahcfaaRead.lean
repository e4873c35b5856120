/-
  What none, Blocks and IsType return of a scope in memory.
-/
import Derived.Test.YtanblanoaahcfaaBase
import Derived.BigQuiet
import Derived.Deep.QuietTactic
namespace Go.Proofs.Ytanblanoaahcfaa
open Go.RowKit Go.ChangeMaps Go.MapKept Go.WideMaps

theorem mapNil (w : World) (r : Option Nat) : (binOp .eql 40 (.map r) (.map none)).run Try.prog w = .ok (.bool r.isNone) w := run_eql_map_nil w _ _ _ r Try.underlying40

set_option maxHeartbeats 400000 in
theorem none_any (sb mb : Nat) (w : World) (c0 : w.cell? ⟨sb, 0, none⟩ = some (.map (some mb))) :
    Calls Try.prog 21 #[.pointer (some ⟨sb, 0, none⟩)] w fun e w' => e = .returned (.bool false) ∧ w = w' := by
  have q := mapNil
  go_enter Try.func21, Try.ntmps21
  go_wp2
  go_ret
  exact ⟨rfl, rfl⟩

theorem ScpAt.c0 {w : World} {sb mb bv M bs ρ nm bl} (h : ScpAt w sb mb bv M bs ρ nm bl) : w.cell? ⟨sb, 0, none⟩ = some (.map (some mb)) := by simp [World.cell?, h.str]
theorem ScpAt.c1 {w : World} {sb mb bv M bs ρ nm bl} (h : ScpAt w sb mb bv M bs ρ nm bl) : w.cell? ⟨sb, 1, none⟩ = some bv := by simp [World.cell?, h.str]
theorem ScpAt.f1 {w : World} {sb mb bv M bs ρ nm bl} (h : ScpAt w sb mb bv M bs ρ nm bl) : w.frozen? ⟨sb, 1, none⟩ = false := by simp [World.frozen?, h.str]

theorem ownsRow_slice {w : World} {base e size : Nat} {v : Value} {n : Nat} {xs : List Value} (h : w.ownsRow base e size v n xs) :
    ∃ a c, v = .slice a n c ∧ (a = none → n = 0) := by
  rcases h.2 with ⟨rfl, rfl⟩ | ⟨g, cap, cur, rfl, _⟩
  · exact ⟨_, _, rfl, fun _ => rfl⟩
  · exact ⟨_, _, rfl, fun h => by cases h⟩

set_option maxHeartbeats 400000 in
theorem blocks_any {w : World} {sb mb bv M bs ρ nm bl} (h : ScpAt w sb mb bv M bs ρ nm bl) :
    Calls Try.prog 18 #[.pointer (some ⟨sb, 0, none⟩)] w fun e w' => e = .returned (.int .i64 bl.length) ∧ w = w' := by
  obtain ⟨ba, bc, rfl, _⟩ := ownsRow_slice h.rb
  have c0 := h.c0
  have c1 := h.c1
  have hl : bs.length = bl.length := h.len
  have H := Lib.hid h; clear h
  rw [hl] at c1
  clear hl
  go_enter Try.func18, Try.ntmps18
  go_wp2_with (first | (go_at_call 21; refine (none_any _ _ _ (by assumption)).mono ?_; rintro e w' ⟨rfl, rfl⟩) | go_in)
  go_ret
  exact ⟨rfl, rfl⟩

def lastB (l : List (Nat × Bool)) : Bool := (l.getLast?.map (·.2)).getD false

set_option maxHeartbeats 400000 in
theorem isType_no {w : World} {sb mb bv M bs ρ nm bl} (h : ScpAt w sb mb bv M bs ρ nm bl) (s : ByteArray) (hs : s.size ≤ maxLen) (a : Option Addr) (c : Nat) (hv : (M s).getD (.slice none 0 0) = .slice a 0 c) :
    Calls Try.prog 12 #[.pointer (some ⟨sb, 0, none⟩), .string s] w fun e w' => e = .returned (.bool false) ∧ w = w' := by
  have c0 := h.c0
  have hm := h.map
  have H := Lib.hid h; clear h
  have HM := Lib.hid hm; clear hm
  have HV := Lib.hid hv; clear hv
  go_enter Try.func12, Try.ntmps12
  go_wp2_with (first | (go_at_call 21; refine (none_any _ _ _ (by assumption)).mono ?_; rintro e w' ⟨rfl, rfl⟩) | (at_lookup; refine wpList_look rfl _ _ rfl mb M s rfl rfl HM.out hs ?_; rw [HV.out]) | go_in)
  go_ret
  exact ⟨rfl, rfl⟩

set_option maxHeartbeats 400000 in
theorem isType_yes {w : World} {sb mb bv M bs ρ nm bl} (h : ScpAt w sb mb bv M bs ρ nm bl) (s : ByteArray) (hs : s.size ≤ maxLen) (g n c : Nat) (b : Bool) (hv : (M s).getD (.slice none 0 0) = .slice (some ⟨g, 0, none⟩) (n + 1) c) (hn : n < maxLen)
    (hc : w.cell? ⟨g, n * 2 + 1, none⟩ = some (.bool b)) :
    Calls Try.prog 12 #[.pointer (some ⟨sb, 0, none⟩), .string s] w fun e w' => e = .returned (.bool b) ∧ w = w' := by
  have c0 := h.c0
  have hm := h.map
  have H := Lib.hid h; clear h
  have HM := Lib.hid hm; clear hm
  have HV := Lib.hid hv; clear hv
  unfold maxLen at hn
  go_enter Try.func12, Try.ntmps12
  go_wp2_with (first | (go_at_call 21; refine (none_any _ _ _ (by assumption)).mono ?_; rintro e w' ⟨rfl, rfl⟩) | (at_lookup; refine wpList_look rfl _ _ rfl mb M s rfl rfl HM.out hs ?_; rw [HV.out]) | go_in)
  go_ret
  exact ⟨rfl, rfl⟩


theorem cellsM_last (l : List (Nat × Bool)) (n : Nat) (h : l.length = n + 1) : (cellsM l)[n * 2 + 1]? = some (.bool (lastB l)) ∧ ∃ k : Nat, (cellsM l)[n * 2]? = some (.int .i64 k) ∧ (l.getLast?).map (·.1) = some k := by
  have hne : l ≠ [] := by intro e; rw [e] at h; simp at h
  obtain ⟨d, x, rfl⟩ : ∃ d x, l = d ++ [x] := ⟨l.dropLast, l.getLast hne, (List.dropLast_concat_getLast hne).symm⟩
  have hd : d.length = n := by simpa using h
  have hc := cellsM_length d
  rw [cellsM_append]
  refine ⟨?_, x.1, ?_, by simp⟩
  · rw [List.getElem?_append_right (by omega), hc, hd, show n * 2 + 1 - n * 2 = 1 from by omega]
    simp [cellsM, lastB]
  · rw [List.getElem?_append_right (by omega), hc, hd, Nat.sub_self]
    simp [cellsM]

/-- What the map holds at a name: nothing, or its marks in a row. -/
theorem ScpAt.at {w : World} {sb mb bv M bs ρ nm bl} (h : ScpAt w sb mb bv M bs ρ nm bl) (s : ByteArray) :
    (nm s = [] ∧ ∃ a c, (M s).getD (.slice none 0 0) = .slice a 0 c) ∨
    ∃ g n c, (nm s).length = n + 1 ∧ M s = some (.slice (some ⟨g, 0, none⟩) (n + 1) c) ∧ ρ g = some (.ent s) ∧ w.frozen? ⟨g, n * 2 + 1, none⟩ = false ∧
      w.cell? ⟨g, n * 2 + 1, none⟩ = some (.bool (lastB (nm s))) ∧ ∃ k : Nat, w.cell? ⟨g, n * 2, none⟩ = some (.int .i64 k) ∧ ((nm s).getLast?).map (·.1) = some k := by
  cases hM : M s with
  | none => exact .inl ⟨h.rn s hM, none, 0, rfl⟩
  | some v =>
    have hr := h.re s v hM
    cases hn : (nm s).length with
    | zero =>
      left
      refine ⟨List.eq_nil_of_length_eq_zero hn, ?_⟩
      rw [hn] at hr
      obtain ⟨a, c, rfl, _⟩ := ownsRow_slice hr
      exact ⟨a, c, rfl⟩
    | succ n =>
      right
      rw [hn] at hr
      rcases hr.2 with ⟨_, h0⟩ | ⟨g, cap, cur, rfl, _, hg, hcap, hm, hsz, htake⟩
      · omega
      · have hcell : ∀ i u, (cellsM (nm s))[i]? = some u → w.cell? ⟨g, i, none⟩ = some u := by
          intro i u hu
          rw [cell_of_row w g i cur 48 (0, 0) hg]
          rw [← htake, List.getElem?_take] at hu
          split at hu
          · simpa using hu
          · cases hu
        obtain ⟨e1, k, e2, e3⟩ := cellsM_last _ _ hn
        exact ⟨g, n, cap, rfl, rfl, h.ρe s _ g hM rfl, by simp [World.frozen?, hg], hcell _ _ e1, k, hcell _ _ e2, e3⟩

theorem isType_any {w : World} {sb mb bv M bs ρ nm bl} (h : ScpAt w sb mb bv M bs ρ nm bl) (s : ByteArray) (hs : s.size ≤ maxLen) (hk : (nm s).length ≤ 1000000) :
    Calls Try.prog 12 #[.pointer (some ⟨sb, 0, none⟩), .string s] w fun e w' => e = .returned (.bool (lastB (nm s))) ∧ w = w' := by
  rcases h.at s with ⟨e, a, c, hv⟩ | ⟨g, n, c, hn, hM, _, _, hc, _⟩
  · rw [e]; exact isType_no h s hs a c hv
  · exact isType_yes h s hs g n c _ (by rw [hM]; rfl) (by unfold maxLen; omega) hc

end Go.Proofs.Ytanblanoaahcfaa
