/-
  The iterator over a block's names (last, slices.Values and its closure): each name in its order, for every loop body that keeps the names' row.
-/
import Derived.Test.YtanblanoaahcfaaLastW
import Derived.Test.YtanblanoaahcfaaForEach
import Derived.RangeFuncNested
import Derived.RangeFuncBound
import Derived.RangeFuncCalls
import Derived.RangeFuncLeaves
import Derived.Shelf.Abstract
import Derived.Shelf.RegionOpen
import Derived.OwnWalkIn
import Derived.TacticsInMore
import Derived.LoopNIn
import Derived.LoopIn
namespace Go.Proofs.Ytanblanoaahcfaa
open Go.RowKit Go.Shelf

attribute [local go_sem] Oper.semAt_some

set_option maxHeartbeats 400000 in
theorem values_world (a : Option Addr) (n c : Nat) (w : World) : Calls Try.prog 25 #[.slice a n c] w fun e w' => e = .returned (.func (.func 26) #[] #[.pointer (some ⟨w.heap.size, 0, none⟩)]) ∧ w.alloc (.cells #[.slice a n c] 49) = w' := by
  go_enter Try.func25, Try.ntmps25
  go_wp2
  go_ret
  exact ⟨rfl, rfl⟩

set_option maxHeartbeats 2000000 in
theorem last_sc {w : World} {sb mb bv M bs ρ nm bl} (h : ScpAt w sb mb bv M bs ρ nm bl) (m : Nat) (hl : bl.length = m + 1) (hm : m < 1000000) (a : Option Addr) (n c : Nat) (hbu : bs[m]? = some (.slice a n c)) :
    Calls Try.prog 24 #[.pointer (some ⟨sb, 0, none⟩)] w fun e w' => ∃ B, e = .returned (.func (.func 26) #[] #[.pointer (some ⟨B, 0, none⟩)]) ∧ w.heap.size ≤ B ∧ B < w'.heap.size ∧ w'.cell? ⟨B, 0, none⟩ = some (.slice a n c) ∧ Below w.heap.size w w' := by
  have hL : bs.length = m + 1 := h.len.trans hl
  have hrb := h.rb
  obtain ⟨gb, bc, rfl⟩ : ∃ gb bc, bv = .slice (some ⟨gb, 0, none⟩) bs.length bc := by
    obtain ⟨g, cap, e, _, _⟩ := hrb.form (by omega)
    exact ⟨g, cap, e⟩
  have c1 := h.c1
  rw [hL] at c1
  have cb : w.cell? ⟨gb, m, none⟩ = some (.slice a n c) := by
    have := hrb.cells (g := gb) rfl m _ hbu
    rw [cellAdd] at this
    exact this
  have q1 : (0 : Int) ≤ (m : Int) := by omega
  have q2 : (m : Int) < (m : Int) + 1 := by omega
  have q3 : IntKind.i64.wrap ((m : Int) + 1 - 1) = (m : Int) := by rw [show (m : Int) + 1 - 1 = (m : Int) from by omega]; exact IntWalk.i64_in _ (by omega)
  have q4 : IntKind.i64.wrap (m : Int) = (m : Int) := IntWalk.i64_in _ (by omega)
  clear hL hrb hl hbu h
  have q5 : ((m : Int)).toNat = m := by omega
  go_enter Try.func24, Try.ntmps24
  go_wp2
  go_region_held3 (fun w' : World => w'.cell? ⟨sb, 1, none⟩ = some (.slice (some ⟨gb, 0, none⟩) (m + 1) bc) ∧ w'.cell? ⟨gb, m, none⟩ = some (.slice a n c)) (first | exact ⟨‹_›, ‹_›⟩ | go_keep) (first
    | (go_at_call 25
       refine (values_world a n c _).mono ?_
       rintro e w3 ⟨rfl, hw3⟩
       have hb3 : Below w.heap.size w w3 := by rw [← hw3]; exact ((Below.refl _ w).drew).alloc (Nat.le_refl _) _
       have hs3 : w3.heap.size = w.heap.size + 1 := by rw [← hw3]; simp
       have hx3 : w3.cell? ⟨w.heap.size, 0, none⟩ = some (.slice a n c) := by rw [← hw3]; exact box_cell w.drew #[.slice a n c] 49 0 _ rfl
       have e1 := cell_later hb3 c1
       have e2 := cell_later hb3 cb
       clear hw3)
    | fail)
  have HS3 := Lib.hid hs3
  clear hs3
  go_wp2
  go_ret
  exact ⟨w.heap.size, rfl, Nat.le_refl _, by have := HS3.out; omega, hx3, hb3⟩

/-- What the loop's body must keep: the names' row. -/
def KeepRow (gl : Nat) (W W' : World) : Prop := W'.heap[gl]? = W.heap[gl]?

theorem KeepRow.cell {gl : Nat} {W W' : World} (h : KeepRow gl W W') (o : Nat) : W'.cell? ⟨gl, o, none⟩ = W.cell? ⟨gl, o, none⟩ := World.cell?_of_block h

set_option maxRecDepth 100000 in
set_option maxHeartbeats 2000000 in
/-- The closure of Values, for every loop body that keeps the row. -/
theorem values1_in (F : Fence) (n : Nat) (h7 : F.fn 26) (hro : F.round = none) (hn : 1 ≤ n) (l Bs gl len cap : Nat) (zs : List ByteArray) (hz : zs.length = len) (hreach : len < 1000000) (J : List ByteArray → World → Prop)
    (hY : ∀ pre x W, J pre W → (pre ++ [x]) <+: zs → YieldAt F (n - 1) Try.prog l #[.string x] W fun e W' => e = .returned (.bool true) ∧ J (pre ++ [x]) W' ∧ KeepRow gl W W')
    (W : World) (hBs : W.cell? ⟨Bs, 0, none⟩ = some (.slice (some ⟨gl, 0, none⟩) len cap)) (hc : ∀ j x, zs[j]? = some x → W.cell? ⟨gl, j, none⟩ = some (.string x)) (h0 : J [] W) :
    CallsIn F n Try.prog 26 #[.func (.yield l) #[] #[], .pointer (some ⟨Bs, 0, none⟩)] W fun e W' => (∃ v, e = .returned v) ∧ J zs W' := by
  refine callsIn_of_wp Try.func26 rfl h7 ?_ hro
  simp only [Try.ntmps26, List.size_toArray, List.length_cons, List.length_nil, Nat.reduceAdd, Nat.reduceSub, Array.replicate_succ, Array.replicate_zero, List.push_toArray, List.append_toArray, List.nil_append, List.cons_append]
  have HC := Lib.hid hc; clear hc
  have HZ := Lib.hid hz; clear hz
  gi_wp2
  gi_loopw [7] (fun i wr => ∃ k : Nat, k ≤ len ∧ i = .int .i64 k ∧ J (zs.take k) wr ∧ KeepRow gl W wr)
    (fun i _ => len - (intOf i).toNat)
  case atStart => exact ⟨0, Nat.zero_le _, rfl, h0, rfl⟩
  case round =>
    obtain ⟨k, hk, rfl, hJs, hnx⟩ := hrel
    by_cases hlt : k < len
    · obtain ⟨x, hx⟩ : ∃ x, zs[k]? = some x := ⟨zs[k]'(by rw [HZ.out]; exact hlt), List.getElem?_eq_getElem _⟩
      have hcx : wr.cell? ⟨gl, k, none⟩ = some (.string x) := (hnx.cell k).trans (HC.out k x hx)
      have hsnoc : zs.take (k + 1) = zs.take k ++ [x] := by rw [List.take_add_one, hx]; rfl
      obtain ⟨fn, tmps, assign, body, hy, hR⟩ := hY _ x wr hJs (by rw [← hsnoc]; exact List.take_prefix _ _)
      have HX := Lib.hid hx; clear hx
      have HS := Lib.hid hsnoc; clear hsnoc
      gi_wp2
      refine hR.mono ?_
      rintro e W3 ⟨rfl, hJ3, hk3⟩
      gi_wp2
      go_roundw
      case rel => exact ⟨k + 1, by omega, by simp, by rw [HS.out]; exact hJ3, hk3.trans hnx⟩
      case measure => simp [intOf]; omega
    · obtain rfl : k = len := by omega
      gi_wp2
      go_end0
      exact ⟨⟨_, rfl⟩, by rw [List.take_of_length_le (by rw [HZ.out]; exact Nat.le_refl _)] at hJs; exact hJs⟩

set_option maxRecDepth 100000 in
set_option maxHeartbeats 1000000 in
theorem values1_nil_in (F : Fence) (n : Nat) (h7 : F.fn 26) (hro : F.round = none) (l Bs : Nat) (J : List ByteArray → World → Prop) (W : World) (hBs : W.cell? ⟨Bs, 0, none⟩ = some (.slice none 0 0)) (h0 : J [] W) :
    CallsIn F n Try.prog 26 #[.func (.yield l) #[] #[], .pointer (some ⟨Bs, 0, none⟩)] W fun e W' => (∃ v, e = .returned v) ∧ J [] W' := by
  refine callsIn_of_wp Try.func26 rfl h7 ?_ hro
  simp only [Try.ntmps26, List.size_toArray, List.length_cons, List.length_nil, Nat.reduceAdd, Nat.reduceSub, Array.replicate_succ, Array.replicate_zero, List.push_toArray, List.append_toArray, List.nil_append, List.cons_append]
  gi_wp2
  gi_loopw [7] (fun i wr => i = .int .i64 0 ∧ J [] wr) (fun _ _ => 0)
  case atStart => exact ⟨rfl, h0⟩
  case round =>
    obtain ⟨rfl, hJs⟩ := hrel
    gi_wp2
    go_end0
    exact ⟨⟨_, rfl⟩, hJs⟩

/-- The value that last returns hands out the block's names. -/
theorem values_hands (F : Fence) (n : Nat) (h7 : F.fn 26) (hro : F.round = none) (hn : 1 ≤ n) (B gl : Nat) (a : Option Addr) (len cap : Nat) (zs : List ByteArray) (hz : zs.length = len) (hreach : len < 1000000)
    (h : (a = none ∧ len = 0 ∧ cap = 0) ∨ a = some ⟨gl, 0, none⟩) (w : World) (hc : w.cell? ⟨B, 0, none⟩ = some (.slice a len cap)) (hcs : ∀ j x, zs[j]? = some x → w.cell? ⟨gl, j, none⟩ = some (.string x)) :
    Hands F n Try.prog 26 #[.pointer (some ⟨B, 0, none⟩)] (fun x : ByteArray => #[Value.string x]) (KeepRow gl) zs w := fun l J W hW hY h0 => by
  have hc' := cell_later hW hc
  rcases h with ⟨rfl, rfl, rfl⟩ | rfl
  · obtain rfl : zs = [] := List.eq_nil_of_length_eq_zero hz
    exact values1_nil_in F n h7 hro l B J W hc' h0
  · exact values1_in F n h7 hro hn l B gl len cap zs hz hreach J hY W hc' (fun j x hx => cell_later hW (hcs j x hx)) h0

end Go.Proofs.Ytanblanoaahcfaa
