/-
  The table of replacements in memory, and what a round that fills it does.
-/
import Derived.Test.YtkenoljnacepaaaOnce
import Derived.Deep.WholeRow
import Derived.Below
import Derived.RowKit
import Derived.Laws.IdiomStrings
import Derived.Lib.SliceRun
import Derived.Laws.NewBlocks
namespace Go.Proofs.Ytkenoljnacepaaa
open Go.RowKit

/-- The table's cells: 256 replacements, and the slice of what is to be replaced. -/
def Z (v : Value) : Array Value := (Array.replicate 256 (Value.slice none 0 0)).push v

theorem Z_size (v : Value) : (Z v).size = 257 := by simp [Z]
theorem Z_one (a : Option Addr) (n c : Nat) : (Z (.slice a n c)).all (·.oneCell') = true := by
  unfold Z
  rw [Array.all_push]
  have h : (Array.replicate 256 (Value.slice none 0 0)).all (·.oneCell') = true := by kernel_rfl
  rw [h]
  rfl

set_option maxRecDepth 100000 in
theorem info61 : (Try.prog.info? 61).map (fun i => (i.zero, i.size)) = some (some (.agg (Z (.slice none 0 0))), 257) := by kernel_rfl

theorem zero61 (w : World) : (zeroValue 61).run Try.prog w = .ok (.agg (Z (.slice none 0 0))) w := (zero_of_info info61).1 w

theorem push_set (l : Array Value) (n : Nat) (h : l.size = n) (v u : Value) : (l.push v).toList.set n u = (l.push u).toList := by
  subst h
  rw [Array.toList_push, Array.toList_push, List.set_append_right _ _ (by simp)]
  simp

theorem Z_set (v u : Value) : (Z v).toList.set 256 u = (Z u).toList := push_set _ 256 (by rw [Array.size_replicate]) v u

theorem store61 (w : World) (o : Obj) (a : Option Addr) (n c : Nat) :
    (storeCells ⟨w.heap.size + 1, 0, none⟩ ((Z (.slice none 0 0)).toList.set 256 (.slice a n c))).run Try.prog ((w.alloc o).alloc (.cells (Z (.slice none 0 0)) 61)) = .ok () ((w.alloc o).alloc (.cells (Z (.slice a n c)) 61)) := by
  rw [Z_set]
  have h := run_storeCells_new (P := Try.prog) (w.alloc o) 61 (Z (.slice none 0 0)) (Z (.slice a n c)) (by rw [Z_size]; exact (zero_of_info info61).2) (by rw [Z_size, Z_size]) (Z_one a n c)
  rwa [show (w.alloc o).heap.size = w.heap.size + 1 from by simp] at h

theorem makeStr (w : World) : (Instr.makeSlice 26 (.int .i64 0) (.int .i64 2)).run Try.prog w = .ok (.slice (some ⟨w.heap.size, 0, none⟩) 0 2) (w.alloc (.cells #[.string ⟨#[]⟩, .string ⟨#[]⟩] 9)) := by kernel_rfl

theorem nil58 (w : World) (a : Option Addr) (n c : Nat) : (binOp .eql 58 (.slice a n c) (.slice none 0 0)).run Try.prog w = .ok (.bool a.isNone) w := Lib.run_eql_slice_nil w _ _ a n c 0 0 Try.underlying58
theorem str1 (w : World) (b : UInt8) : (convert 58 9 (.slice (some ⟨w.heap.size, 0, none⟩) 1 1)).run Try.prog (w.alloc (.cells #[.int .u8 b.toNat] 5)) = .ok (.string ⟨#[b]⟩) (w.alloc (.cells #[.int .u8 b.toNat] 5)) :=
  run_convert_bytes_back _ 58 9 5 ⟨w.heap.size, 0, none⟩ 1 [b] Try.underlying58 Try.underlying5 Try.underlying9 (fun j hj => by
    simp at hj; subst hj
    simp [Addr.add])
theorem str10 (w : World) : (convert 58 9 (.slice (some ⟨w.heap.size, 0, none⟩) 1 1)).run Try.prog (w.alloc (.cells #[.int .u8 10] 5)) = .ok (.string ⟨#[10]⟩) (w.alloc (.cells #[.int .u8 10] 5)) := str1 w 10
theorem str92 (w : World) : (convert 58 9 (.slice (some ⟨w.heap.size, 0, none⟩) 1 1)).run Try.prog (w.alloc (.cells #[.int .u8 92] 5)) = .ok (.string ⟨#[92]⟩) (w.alloc (.cells #[.int .u8 92] 5)) := str1 w 92
theorem bytes58 (w : World) (s : ByteArray) : (convert 9 58 (.string s)).run Try.prog w = .ok (.slice (some ⟨w.heap.size, 0, none⟩) s.size (grownCap w s.size 0 5))
      (w.drew.alloc (.cells (bytesRow s (grownCap w s.size 0 5)) 5 ((bytesRow s (grownCap w s.size 0 5)).size, (bytesRow s (grownCap w s.size 0 5)).size + 1))) := run_bytes_of_string w 9 58 5 s Try.underlying9 Try.underlying58 Try.underlying5

/-! ### A round's world: two new blocks, two stores, a new block, a store -/
def Round (w : World) (o1 o2 : Obj) (A1 : Addr) (v1 : Value) (A2 : Addr) (v2 : Value) (o3 : Obj) (A3 : Addr) (v3 : Value) : World :=
  (((((w.alloc o1).alloc o2).setCell A1 v1).setCell A2 v2).alloc o3).drew.setCell A3 v3

section
variable {w : World} {o1 o2 o3 : Obj} {A1 A2 A3 : Addr} {v1 v2 v3 : Value} {a : Addr}

theorem two_past (ha : a.block < w.heap.size) : ((w.alloc o1).alloc o2).cell? a = w.cell? a := by
  obtain ⟨b, o, s⟩ := a
  have h1 : b < w.heap.size := ha
  unfold World.cell?
  rw [heap_alloc_old _ _ (by simp; omega), heap_alloc_old _ _ h1]

theorem two_past_f (ha : a.block < w.heap.size) : ((w.alloc o1).alloc o2).frozen? a = w.frozen? a := by
  obtain ⟨b, o, s⟩ := a
  have h1 : b < w.heap.size := ha
  unfold World.frozen?
  rw [heap_alloc_old _ _ (by simp; omega), heap_alloc_old _ _ h1]

theorem three_past (ha : a.block < w.heap.size) : ((((w.alloc o1).alloc o2).setCell A1 v1).setCell A2 v2 |>.alloc o3).cell? a = (((w.alloc o1).alloc o2).setCell A1 v1 |>.setCell A2 v2).cell? a := by
  obtain ⟨b, o, s⟩ := a
  have h1 : b < w.heap.size := ha
  unfold World.cell?
  rw [heap_alloc_old _ _ (by simp [World.setCell]; omega)]

theorem Round.far (ha : a.block < w.heap.size) (n1 : A1 ≠ a) (n2 : A2 ≠ a) (n3 : A3 ≠ a) : (Round w o1 o2 A1 v1 A2 v2 o3 A3 v3).cell? a = w.cell? a := by
  unfold Round
  rw [World.cell?_setCell_other _ _ _ _ n3, World.cell?_drew, three_past ha, World.cell?_setCell_other _ _ _ _ n2, World.cell?_setCell_other _ _ _ _ n1, two_past ha]

theorem Round.at1 (ha : A1.block < w.heap.size) (n2 : A2 ≠ A1) (n3 : A3 ≠ A1) {u : Value} (h : w.cell? A1 = some u) : (Round w o1 o2 A1 v1 A2 v2 o3 A3 v3).cell? A1 = some v1 := by
  unfold Round
  rw [World.cell?_setCell_other _ _ _ _ n3, World.cell?_drew, three_past ha, World.cell?_setCell_other _ _ _ _ n2]
  exact World.cell?_setCell_same _ _ _ ((two_past ha).trans h)

theorem Round.at2 (ha : A2.block < w.heap.size) (n1 : A1 ≠ A2) (n3 : A3 ≠ A2) {u : Value} (h : w.cell? A2 = some u) : (Round w o1 o2 A1 v1 A2 v2 o3 A3 v3).cell? A2 = some v2 := by
  unfold Round
  rw [World.cell?_setCell_other _ _ _ _ n3, World.cell?_drew, three_past ha]
  exact World.cell?_setCell_same _ _ _ ((World.cell?_setCell_other _ _ _ _ n1).trans ((two_past ha).trans h))

theorem Round.at3 (ha : A3.block < w.heap.size) (n1 : A1 ≠ A3) (n2 : A2 ≠ A3) {u : Value} (h : w.cell? A3 = some u) : (Round w o1 o2 A1 v1 A2 v2 o3 A3 v3).cell? A3 = some v3 := by
  unfold Round
  refine World.cell?_setCell_same _ _ _ (u := u) ?_
  rw [World.cell?_drew, three_past ha, World.cell?_setCell_other _ _ _ _ n2, World.cell?_setCell_other _ _ _ _ n1, two_past ha]
  exact h

theorem Round.fresh (ha : A3.block < w.heap.size) {cs : Array Value} {t : TypeId} {fr : Nat × Nat} (j : Nat) : (Round w o1 o2 A1 v1 A2 v2 (.cells cs t fr) A3 v3).cell? ⟨w.heap.size + 2, j, none⟩ = cs[j]? := by
  unfold Round
  rw [World.cell?_setCell_other _ _ _ _ (by intro e; rw [e] at ha; simp at ha; omega), World.cell?_drew]
  have hs : (((w.alloc o1).alloc o2).setCell A1 v1 |>.setCell A2 v2).heap.size = w.heap.size + 2 := by simp [World.setCell]
  rw [← hs]
  unfold World.cell?
  rw [heap_alloc_new]
  rfl

theorem row0 (a b : UInt8) (cap : Nat) : (bytesRow ⟨#[a, b]⟩ cap)[0]? = some (.int .u8 a.toNat) := by simp [bytesRow, Array.getElem?_append]
theorem row1 (a b : UInt8) (cap : Nat) : (bytesRow ⟨#[a, b]⟩ cap)[1]? = some (.int .u8 b.toNat) := by simp [bytesRow, Array.getElem?_append]

theorem Round.frozen (ha : a.block < w.heap.size) : (Round w o1 o2 A1 v1 A2 v2 o3 A3 v3).frozen? a = w.frozen? a := by
  have h3 : ((((w.alloc o1).alloc o2).setCell A1 v1).setCell A2 v2 |>.alloc o3).frozen? a = (((w.alloc o1).alloc o2).setCell A1 v1 |>.setCell A2 v2).frozen? a := by
    obtain ⟨b, o, s⟩ := a
    have h1 : b < w.heap.size := ha
    unfold World.frozen?
    rw [heap_alloc_old _ _ (by simp [World.setCell]; omega)]
  unfold Round
  rw [World.frozen?_setCell, World.frozen?_drew, h3, World.frozen?_setCell, World.frozen?_setCell, two_past_f ha]

theorem Round.size : (Round w o1 o2 A1 v1 A2 v2 o3 A3 v3).heap.size = w.heap.size + 3 := by
  unfold Round
  simp [World.setCell]

theorem Round.below {B : Nat} {w0 : World} (h : Below B w0 w) (hB : B ≤ w.heap.size) (h1 : B ≤ A1.block) (h2 : B ≤ A2.block) (h3 : B ≤ A3.block) : Below B w0 (Round w o1 o2 A1 v1 A2 v2 o3 A3 v3) := by
  unfold Round
  refine Below.setCell (Below.drew (Below.alloc (Below.setCell (Below.setCell ((h.alloc hB _).alloc (by simp; omega) _) h1 _) h2 _) ?_ _)) h3 _
  simp [World.setCell]; omega
end

/-- A replacement in the table. -/
def Ent (w0 w : World) (S B : Nat) (v : Value) (x y : Int) : Prop :=
  ∃ g c, v = .slice (some ⟨g, 0, none⟩) 2 c ∧ w0.heap.size ≤ g ∧ g < w.heap.size ∧ g ≠ S ∧ g ≠ B ∧ w.cell? ⟨g, 0, none⟩ = some (.int .u8 x) ∧ w.cell? ⟨g, 1, none⟩ = some (.int .u8 y)

/-- The table under way: k of the two have come. -/
structure Tab (w0 w : World) (S B k : Nat) : Prop where
  below : Below w0.heap.size w0 w
  S0 : w0.heap.size ≤ S
  B0 : w0.heap.size ≤ B
  S1 : S < w.heap.size
  B1 : B < w.heap.size
  ne : S ≠ B
  fS : ∀ j, w.frozen? ⟨S, j, none⟩ = false
  fB : ∀ j, w.frozen? ⟨B, j, none⟩ = false
  t : w.cell? ⟨B, 256, none⟩ = some (.slice (some ⟨S, 0, none⟩) k 2)
  s0 : w.cell? ⟨S, 0, none⟩ = some (.string (if 1 ≤ k then ⟨#[10]⟩ else ⟨#[]⟩))
  s1 : w.cell? ⟨S, 1, none⟩ = some (.string (if 2 ≤ k then ⟨#[92]⟩ else ⟨#[]⟩))
  e10 : ∃ v, w.cell? ⟨B, 10, none⟩ = some v ∧ if 1 ≤ k then Ent w0 w S B v 92 110 else v = .slice none 0 0
  e92 : ∃ v, w.cell? ⟨B, 92, none⟩ = some v ∧ if 2 ≤ k then Ent w0 w S B v 92 92 else v = .slice none 0 0
  eo : ∀ x : Nat, x < 256 → x ≠ 10 → x ≠ 92 → w.cell? ⟨B, x, none⟩ = some (.slice none 0 0)

theorem Tab.step0 {w0 w : World} {S B : Nat} (h : Tab w0 w S B 0) (o1 o2 : Obj) (cap c : Nat) (fr : Nat × Nat) :
    Tab w0 (Round w o1 o2 ⟨S, 0, none⟩ (.string ⟨#[10]⟩) ⟨B, 256, none⟩ (.slice (some ⟨S, 0, none⟩) 1 2) (.cells (bytesRow ⟨#[92, 110]⟩ cap) 5 fr) ⟨B, 10, none⟩ (.slice (some ⟨w.heap.size + 2, 0, none⟩) 2 c)) S B 1 := by
  have hne := h.ne
  have hS := h.S1
  have hB := h.B1
  have d : ∀ i j : Nat, (⟨S, i, none⟩ : Addr) ≠ ⟨B, j, none⟩ := fun i j e => hne (by simpa using congrArg Addr.block e)
  have d' : ∀ i j : Nat, (⟨B, i, none⟩ : Addr) ≠ ⟨S, j, none⟩ := fun i j e => hne (by simpa using (congrArg Addr.block e).symm)
  have dB : ∀ i j : Nat, i ≠ j → (⟨B, i, none⟩ : Addr) ≠ ⟨B, j, none⟩ := fun i j hij e => hij (by simpa using congrArg Addr.off e)
  have dS : ∀ i j : Nat, i ≠ j → (⟨S, i, none⟩ : Addr) ≠ ⟨S, j, none⟩ := fun i j hij e => hij (by simpa using congrArg Addr.off e)
  obtain ⟨v10, x10, y10⟩ := h.e10
  obtain ⟨v92, x92, y92⟩ := h.e92
  refine ⟨Round.below h.below h.below.size h.S0 h.B0 h.B0, h.S0, h.B0, by rw [Round.size]; omega, by rw [Round.size]; omega, hne, fun j => (Round.frozen hS).trans (h.fS j), fun j => (Round.frozen hB).trans (h.fB j),
    Round.at2 hB (d _ _) (dB _ _ (by decide)) h.t, Round.at1 hS (d' _ _) (d' _ _) h.s0, (Round.far hS (dS _ _ (by decide)) (d' _ _) (d' _ _)).trans h.s1, ⟨_, Round.at3 hB (d _ _) (dB _ _ (by decide)) x10, ?_⟩,
    ⟨v92, (Round.far hB (d _ _) (dB _ _ (by decide)) (dB _ _ (by decide))).trans x92, by simpa using y92⟩, fun x hx n1 n2 => (Round.far hB (d _ _) (dB _ _ (by omega)) (dB _ _ (by omega))).trans (h.eo x hx n1 n2)⟩
  simp only [Nat.le_refl, if_true]
  exact ⟨_, _, rfl, by have := h.below.size; omega, by rw [Round.size]; omega, by omega, by omega, (Round.fresh hB 0).trans (row0 _ _ _), (Round.fresh hB 1).trans (row1 _ _ _)⟩

theorem Tab.step1 {w0 w : World} {S B : Nat} (h : Tab w0 w S B 1) (o1 o2 : Obj) (cap c : Nat) (fr : Nat × Nat) :
    Tab w0 (Round w o1 o2 ⟨S, 1, none⟩ (.string ⟨#[92]⟩) ⟨B, 256, none⟩ (.slice (some ⟨S, 0, none⟩) 2 2) (.cells (bytesRow ⟨#[92, 92]⟩ cap) 5 fr) ⟨B, 92, none⟩ (.slice (some ⟨w.heap.size + 2, 0, none⟩) 2 c)) S B 2 := by
  have hne := h.ne
  have hS := h.S1
  have hB := h.B1
  have d : ∀ i j : Nat, (⟨S, i, none⟩ : Addr) ≠ ⟨B, j, none⟩ := fun i j e => hne (by simpa using congrArg Addr.block e)
  have d' : ∀ i j : Nat, (⟨B, i, none⟩ : Addr) ≠ ⟨S, j, none⟩ := fun i j e => hne (by simpa using (congrArg Addr.block e).symm)
  have dB : ∀ i j : Nat, i ≠ j → (⟨B, i, none⟩ : Addr) ≠ ⟨B, j, none⟩ := fun i j hij e => hij (by simpa using congrArg Addr.off e)
  have dS : ∀ i j : Nat, i ≠ j → (⟨S, i, none⟩ : Addr) ≠ ⟨S, j, none⟩ := fun i j hij e => hij (by simpa using congrArg Addr.off e)
  obtain ⟨v10, x10, y10⟩ := h.e10
  obtain ⟨v92, x92, y92⟩ := h.e92
  simp only [Nat.le_refl, if_true] at y10
  obtain ⟨g, cc, rfl, hg0, hg, gS, gB, z0, z1⟩ := y10
  have q : ∀ j k, (⟨S, j, none⟩ : Addr) ≠ ⟨g, k, none⟩ := fun j k e => gS (by simpa using (congrArg Addr.block e).symm)
  have q' : ∀ j k, (⟨B, j, none⟩ : Addr) ≠ ⟨g, k, none⟩ := fun j k e => gB (by simpa using (congrArg Addr.block e).symm)
  refine ⟨Round.below h.below h.below.size h.S0 h.B0 h.B0, h.S0, h.B0, by rw [Round.size]; omega, by rw [Round.size]; omega, hne, fun j => (Round.frozen hS).trans (h.fS j), fun j => (Round.frozen hB).trans (h.fB j),
    Round.at2 hB (d _ _) (dB _ _ (by decide)) h.t, (Round.far hS (dS _ _ (by decide)) (d' _ _) (d' _ _)).trans h.s0, Round.at1 hS (d' _ _) (d' _ _) h.s1,
    ⟨_, (Round.far hB (d _ _) (dB _ _ (by decide)) (dB _ _ (by decide))).trans x10, ?_⟩, ⟨_, Round.at3 hB (d _ _) (dB _ _ (by decide)) x92, ?_⟩, fun x hx n1 n2 => (Round.far hB (d _ _) (dB _ _ (by omega)) (dB _ _ (by omega))).trans (h.eo x hx n1 n2)⟩
  · simp only [show 1 ≤ 2 from by decide, if_true]
    exact ⟨_, _, rfl, hg0, by rw [Round.size]; omega, gS, gB, (Round.far hg (q _ _) (q' _ _) (q' _ _)).trans z0, (Round.far hg (q _ _) (q' _ _) (q' _ _)).trans z1⟩
  · simp only [Nat.le_refl, if_true]
    exact ⟨_, _, rfl, by have := h.below.size; omega, by rw [Round.size]; omega, by omega, by omega, (Round.fresh hB 0).trans (row0 _ _ _), (Round.fresh hB 1).trans (row1 _ _ _)⟩

/-- The table, made: its block B, the slice of what is replaced S; all from the block number b on. -/
structure Done (b : Nat) (w : World) (S B : Nat) : Prop where
  S0 : b ≤ S
  B0 : b ≤ B
  S1 : S < w.heap.size
  B1 : B < w.heap.size
  t : w.cell? ⟨B, 256, none⟩ = some (.slice (some ⟨S, 0, none⟩) 2 2)
  s0 : w.cell? ⟨S, 0, none⟩ = some (.string ⟨#[10]⟩)
  s1 : w.cell? ⟨S, 1, none⟩ = some (.string ⟨#[92]⟩)
  e10 : ∃ g c, w.cell? ⟨B, 10, none⟩ = some (.slice (some ⟨g, 0, none⟩) 2 c) ∧ b ≤ g ∧ g < w.heap.size ∧ w.cell? ⟨g, 0, none⟩ = some (.int .u8 92) ∧ w.cell? ⟨g, 1, none⟩ = some (.int .u8 110)
  e92 : ∃ g c, w.cell? ⟨B, 92, none⟩ = some (.slice (some ⟨g, 0, none⟩) 2 c) ∧ b ≤ g ∧ g < w.heap.size ∧ w.cell? ⟨g, 0, none⟩ = some (.int .u8 92) ∧ w.cell? ⟨g, 1, none⟩ = some (.int .u8 92)
  eo : ∀ x : Nat, x < 256 → x ≠ 10 → x ≠ 92 → w.cell? ⟨B, x, none⟩ = some (.slice none 0 0)

theorem Tab.done {w0 w : World} {S B : Nat} (h : Tab w0 w S B 2) : Done w0.heap.size w S B := by
  obtain ⟨v1, x1, y1⟩ := h.e10
  obtain ⟨v2, x2, y2⟩ := h.e92
  simp only [show 1 ≤ 2 from by decide, if_true] at y1
  simp only [Nat.le_refl, if_true] at y2
  obtain ⟨g, c, rfl, a1, a2, _, _, a3, a4⟩ := y1
  obtain ⟨g', c', rfl, b1, b2, _, _, b3, b4⟩ := y2
  exact ⟨h.S0, h.B0, h.S1, h.B1, h.t, by simpa using h.s0, by simpa using h.s1, ⟨g, c, x1, a1, a2, a3, a4⟩, ⟨g', c', x2, b1, b2, b3, b4⟩, h.eo⟩

/-- It stays while what lies from b on stays. -/
theorem Done.frame {b : Nat} {w w' : World} {S B : Nat} (h : Done b w S B) (hs : w.heap.size ≤ w'.heap.size) (hb : ∀ k, b ≤ k → k < w.heap.size → w'.heap[k]? = w.heap[k]?) : Done b w' S B := by
  have cc : ∀ (k j : Nat), b ≤ k → k < w.heap.size → w'.cell? ⟨k, j, none⟩ = w.cell? ⟨k, j, none⟩ := fun k j h1 h2 => World.cell?_of_block (hb k h1 h2)
  obtain ⟨g, c, a0, a1, a2, a3, a4⟩ := h.e10
  obtain ⟨g', c', b0, b1, b2, b3, b4⟩ := h.e92
  exact ⟨h.S0, h.B0, Nat.lt_of_lt_of_le h.S1 hs, Nat.lt_of_lt_of_le h.B1 hs, (cc B _ h.B0 h.B1).trans h.t, (cc S _ h.S0 h.S1).trans h.s0, (cc S _ h.S0 h.S1).trans h.s1,
    ⟨g, c, (cc B _ h.B0 h.B1).trans a0, a1, Nat.lt_of_lt_of_le a2 hs, (cc g _ a1 a2).trans a3, (cc g _ a1 a2).trans a4⟩,
    ⟨g', c', (cc B _ h.B0 h.B1).trans b0, b1, Nat.lt_of_lt_of_le b2 hs, (cc g' _ b1 b2).trans b3, (cc g' _ b1 b2).trans b4⟩,
    fun x hx n1 n2 => (cc B _ h.B0 h.B1).trans (h.eo x hx n1 n2)⟩

end Go.Proofs.Ytkenoljnacepaaa
