/-
  The iterator over a text's edits: each edit that comes, for every loop body that goes on.
-/
import Derived.Test.YtbodemkmjemdjaaDoorSeq
import Derived.Test.YtbodemkmjemdjaaDoorSaidP
import Derived.TacticsInMore
import Derived.LoopNIn
import Derived.LoopIn
import Derived.WalkMore
namespace Go.Proofs.YtbodemkmjemdjaaDoor
open Go.RowKit

attribute [local go_sem] Oper.semAt_some

/-- How the reader, the flag and the closure's boxes lie: the n-th line comes. -/
structure Rdr (W0 : World) (C1 C2 R Bd : Nat) (lv : Value) (n : Nat) (b : Bool) (W : World) : Prop where
  low : Below W0.heap.size W0 W
  c1 : W.heap[C1]? = some (.cells #[.pointer (some ⟨R, 0, none⟩)] 65 (0, 0))
  c2 : W.heap[C2]? = some (.cells #[.pointer (some ⟨Bd, 0, none⟩)] 76 (0, 0))
  r : W.heap[R]? = some (.cells #[lv, .int .i64 (n : Int)] 67 (0, 0))
  d : W.heap[Bd]? = some (.cells #[.bool b] 4 (0, 0))

/-- What a world gives that the reader's text was made in. -/
structure Src (W0 : World) (lv : Value) (X : List ByteArray) (ml : Int) : Prop where
  x : StrsAt W0 lv X
  size : ∀ y ∈ X, y.size ≤ 9000000
  m : W0.cell? ⟨1, 0, none⟩ = some (.int .i64 ml)
  p : Pow10 W0
  e : Errs W0

theorem Rdr.later {W0 : World} {C1 C2 R Bd : Nat} {lv : Value} {n : Nat} {b : Bool} {W W' : World} (h : Rdr W0 C1 C2 R Bd lv n b W) (hb : Below W.heap.size W W') : Rdr W0 C1 C2 R Bd lv n b W' :=
  have lt : ∀ {k : Nat} {o : Obj}, W.heap[k]? = some o → k < W.heap.size := fun h => (Array.getElem?_eq_some_iff.1 h).1
  ⟨h.low.trans (hb.mono h.low.size), (hb.block _ (lt h.c1)).trans h.c1, (hb.block _ (lt h.c2)).trans h.c2, (hb.block _ (lt h.r)).trans h.r, (hb.block _ (lt h.d)).trans h.d⟩
theorem Rdr.x1 {W0 : World} {C1 C2 R Bd : Nat} {lv : Value} {n : Nat} {b : Bool} {W : World} (h : Rdr W0 C1 C2 R Bd lv n b W) : W.cell? ⟨C1, 0, none⟩ = some (.pointer (some ⟨R, 0, none⟩)) := by rw [Lib.cell_of_heap h.c1]; rfl
theorem Rdr.x2 {W0 : World} {C1 C2 R Bd : Nat} {lv : Value} {n : Nat} {b : Bool} {W : World} (h : Rdr W0 C1 C2 R Bd lv n b W) : W.cell? ⟨C2, 0, none⟩ = some (.pointer (some ⟨Bd, 0, none⟩)) := by rw [Lib.cell_of_heap h.c2]; rfl
theorem Rdr.r0 {W0 : World} {C1 C2 R Bd : Nat} {lv : Value} {n : Nat} {b : Bool} {W : World} (h : Rdr W0 C1 C2 R Bd lv n b W) : W.cell? ⟨R, 0, none⟩ = some lv := by rw [Lib.cell_of_heap h.r]; rfl
theorem Rdr.r1 {W0 : World} {C1 C2 R Bd : Nat} {lv : Value} {n : Nat} {b : Bool} {W : World} (h : Rdr W0 C1 C2 R Bd lv n b W) : W.cell? ⟨R, 1, none⟩ = some (.int .i64 (n : Int)) := by rw [Lib.cell_of_heap h.r]; rfl
theorem Rdr.d0 {W0 : World} {C1 C2 R Bd : Nat} {lv : Value} {n : Nat} {b : Bool} {W : World} (h : Rdr W0 C1 C2 R Bd lv n b W) : W.cell? ⟨Bd, 0, none⟩ = some (.bool b) := by rw [Lib.cell_of_heap h.d]; rfl
theorem now_rd {W0 : World} {C1 C2 R Bd : Nat} {lv : Value} {n : Nat} {b : Bool} {W : World} {X : List ByteArray} {ml : Int} (hS : Src W0 lv X ml) (h : Rdr W0 C1 C2 R Bd lv n b W) :
    Calls Tryd.prog 24 #[.pointer (some ⟨R, 0, none⟩)] W fun e w' => e = .returned (.tuple #[.string (nowF X n).1, .bool (nowF X n).2]) ∧ Below W.heap.size W w' :=
  now_any R n lv X W h.r0 h.r1 (hS.x.later h.low) hS.size

theorem now_size {X : List ByteArray} {n b : Nat} (h : ∀ y ∈ X, y.size ≤ b) : (nowF X n).1.size ≤ b := by
  unfold nowF
  cases hx : X[n]? with
  | none => exact Nat.zero_le _
  | some x =>
    have := h x (List.mem_of_getElem? hx)
    dsimp only
    rw [Lib.size_eq] at this ⊢
    refine Nat.le_trans ?_ this
    show (Lib.trimSuffix x.data.toList [10]).length ≤ _
    unfold Lib.trimSuffix
    split
    · simp
    · exact Nat.le_refl _
theorem now_lt {X : List ByteArray} {n : Nat} (h : (nowF X n).2 = true) : n < X.length := (List.getElem?_eq_some_iff.1 (now_inv h)).1

theorem Rdr.drew {W0 : World} {C1 C2 R Bd : Nat} {lv : Value} {n : Nat} {b : Bool} {W : World} (h : Rdr W0 C1 C2 R Bd lv n b W) : Rdr W0 C1 C2 R Bd lv n b W.drew := ⟨below_drew h.low, h.c1, h.c2, h.r, h.d⟩
theorem Rdr.ne {W0 : World} {C1 C2 R Bd : Nat} {lv : Value} {n : Nat} {b : Bool} {W : World} (h : Rdr W0 C1 C2 R Bd lv n b W) : C1 ≠ Bd ∧ C2 ≠ Bd ∧ C1 ≠ R ∧ C2 ≠ R ∧ R ≠ Bd := by
  refine ⟨?_, ?_, ?_, ?_, ?_⟩
  · rintro rfl; have := h.c1.symm.trans h.d; simp at this
  · rintro rfl; have := h.c2.symm.trans h.d; simp at this
  · rintro rfl; have := h.c1.symm.trans h.r; simp at this
  · rintro rfl; have := h.c2.symm.trans h.r; simp at this
  · rintro rfl; have := h.r.symm.trans h.d; simp at this
theorem Rdr.setBad {W0 : World} {C1 C2 R Bd : Nat} {lv : Value} {n : Nat} {b : Bool} {W : World} (h : Rdr W0 C1 C2 R Bd lv n b W) (hBd : W0.heap.size ≤ Bd) (b' : Bool) : Rdr W0 C1 C2 R Bd lv n b' (W.setCell ⟨Bd, 0, none⟩ (.bool b')) := by
  obtain ⟨k1, k2, _, _, k5⟩ := h.ne
  refine ⟨h.low.setCell (p := ⟨Bd, 0, none⟩) hBd _, (Below.heap_setCell _ _ _ _ k1).trans h.c1, (Below.heap_setCell _ _ _ _ k2).trans h.c2, (Below.heap_setCell _ _ _ _ k5).trans h.r, ?_⟩
  simp [World.setCell, Array.getElem?_modify, h.d]
theorem Rdr.setN {W0 : World} {C1 C2 R Bd : Nat} {lv : Value} {n : Nat} {b : Bool} {W : World} (h : Rdr W0 C1 C2 R Bd lv n b W) (hR : W0.heap.size ≤ R) (n' : Nat) : Rdr W0 C1 C2 R Bd lv n' b (W.setCell ⟨R, 1, none⟩ (.int .i64 (n' : Int))) := by
  obtain ⟨_, _, k3, k4, k5⟩ := h.ne
  refine ⟨h.low.setCell (p := ⟨R, 1, none⟩) hR _, (Below.heap_setCell _ _ _ _ k3).trans h.c1, (Below.heap_setCell _ _ _ _ k4).trans h.c2, ?_, (Below.heap_setCell _ _ _ _ (Ne.symm k5)).trans h.d⟩
  simp [World.setCell, Array.getElem?_modify, h.r]
theorem Rdr.box {W0 : World} {C1 C2 R Bd : Nat} {lv : Value} {n : Nat} {b : Bool} {W : World} (h : Rdr W0 C1 C2 R Bd lv n b W) {N o : Nat} (hN : W0.heap.size ≤ N) (h1 : C1 ≠ N) (h2 : C2 ≠ N) (h3 : R ≠ N) (h4 : Bd ≠ N) (v : Value) : Rdr W0 C1 C2 R Bd lv n b (W.setCell ⟨N, o, none⟩ v) :=
  ⟨h.low.setCell (p := ⟨N, o, none⟩) hN _, (Below.heap_setCell _ _ _ _ h1).trans h.c1, (Below.heap_setCell _ _ _ _ h2).trans h.c2, (Below.heap_setCell _ _ _ _ h3).trans h.r, (Below.heap_setCell _ _ _ _ h4).trans h.d⟩
theorem Rdr.lt {W0 : World} {C1 C2 R Bd : Nat} {lv : Value} {n : Nat} {b : Bool} {W : World} (h : Rdr W0 C1 C2 R Bd lv n b W) : C1 < W.heap.size ∧ C2 < W.heap.size ∧ R < W.heap.size ∧ Bd < W.heap.size :=
  have lt : ∀ {k : Nat} {o : Obj}, W.heap[k]? = some o → k < W.heap.size := fun h => (Array.getElem?_eq_some_iff.1 h).1
  ⟨lt h.c1, lt h.c2, lt h.r, lt h.d⟩
theorem Steps.drew {R Bd : Nat} {A B : World} (h : Steps R Bd A B) : Steps R Bd A B.drew := ⟨h.os, h.tape, h.output, h.size, h.block⟩
theorem Steps.setCell {R Bd : Nat} {A B : World} (h : Steps R Bd A B) {b o : Nat} (hb : b = R ∨ b = Bd ∨ A.heap.size ≤ b) (v : Value) : Steps R Bd A (B.setCell ⟨b, o, none⟩ v) :=
  ⟨h.os, h.tape, h.output, by simpa [World.setCell] using h.size, fun k hk h1 h2 => (Below.heap_setCell _ _ _ _ (by show k ≠ b; omega)).trans (h.block k hk h1 h2)⟩

theorem sign_any (m : Nat) (w : World) : Calls Tryd.prog 46 #[.string ⟨#[43]⟩, .int .i64 (min (m : Int) 1)] w fun e w' => e = .returned (.string (signOf m)) ∧ w' = w := by
  by_cases h : m = 0
  · subst h
    exact Tryd.strings_Repeat_zero _ w
  · rw [show min (m : Int) 1 = 1 by omega, show signOf m = ⟨#[43]⟩ from if_neg h]
    exact Tryd.strings_Repeat_one _ w

theorem wpIn_scope {n : Nat} {P : Program} {c : Code} {Q : Exit → Act → World → Prop} {a : Act} {w : World} (h : c.wpIn Fence.wide n P (Exit.noGoto Q) a w) : (Code.scope c).wpIn Fence.wide n P Q a w :=
  wpIn_wide.2 (wp_scope_straight (wpIn_wide.1 h))

def nOf (R : Nat) (w : World) : Nat := match w.cell? ⟨R, 1, none⟩ with | some (.int _ n) => n.toNat | _ => 0

theorem Rdr.keep {W0 : World} {C1 C2 R Bd n0 : Nat} {lv : Value} {n : Nat} {b : Bool} {W W' : World} (h : Rdr W0 C1 C2 R Bd lv n b W) (hb : Below n0 W W') (hR : W0.heap.size ≤ R) (_hBd : W0.heap.size ≤ Bd) (hl : R < n0 ∧ Bd < n0 ∧ C1 < n0 ∧ C2 < n0) : Rdr W0 C1 C2 R Bd lv n b W' :=
  ⟨h.low.trans (hb.mono (by omega)), (hb.block _ hl.2.2.1).trans h.c1, (hb.block _ hl.2.2.2).trans h.c2, (hb.block _ hl.1).trans h.r, (hb.block _ hl.2.1).trans h.d⟩
theorem Rdr.nOf {W0 : World} {C1 C2 R Bd : Nat} {lv : Value} {n : Nat} {b : Bool} {W : World} (h : Rdr W0 C1 C2 R Bd lv n b W) : nOf R W = n := by
  unfold YtbodemkmjemdjaaDoor.nOf
  rw [h.r1]
  simp

set_option maxRecDepth 100000 in
set_option maxHeartbeats 4000000 in
theorem edits1_in (l C1 C2 R Bd : Nat) (W0 : World) (lv : Value) (X : List ByteArray) (ml : Int) (n0 : Nat) (hS : Src W0 lv X ml) (hR : W0.heap.size ≤ R) (hBd : W0.heap.size ≤ Bd) (hXl : X.length ≤ 9000000) 
    (hlim : R < n0 ∧ Bd < n0 ∧ C1 < n0 ∧ C2 < n0) (n1 : Nat) (hn1 : n1 ≤ X.length) (J : List Ed → World → Prop)
    (hJ : ∀ pre A B, Steps R Bd A B → J pre A → J pre B)
    (hY : ∀ pre x A B, J pre A → Steps R Bd A B → (pre ++ [x]) <+: (editsF X (X.length + 1) n1 (-1)).1 → YieldAt Fence.wide 4 Tryd.prog l #[edV x] B fun e W' => e = .returned (.bool true) ∧ J (pre ++ [x]) W' ∧ Kept n0 A B W')
    (W : World) (hW : Rdr W0 C1 C2 R Bd lv n1 false W) (h0 : J [] W) :
    CallsIn Fence.wide 5 Tryd.prog 43 #[.func (.yield l) #[] #[], .pointer (some ⟨C1, 0, none⟩), .pointer (some ⟨C2, 0, none⟩)] W fun e W' => (∃ v, e = .returned v) ∧ J (editsF X (X.length + 1) n1 (-1)).1 W' ∧
      Rdr W0 C1 C2 R Bd lv (editsF X (X.length + 1) n1 (-1)).2.1 (editsF X (X.length + 1) n1 (-1)).2.2 W' := by
  have hro : Fence.wide.round = none := rfl
  have HW := Lib.hid hW
  have HJ := Lib.hid h0
  clear hW h0
  refine callsIn_of_wp Tryd.func43 rfl trivial ?_ hro
  simp only [Tryd.ntmps43, List.size_toArray, List.length_cons, List.length_nil, Nat.reduceAdd, Nat.reduceSub, Array.replicate_succ, Array.replicate_zero, List.push_toArray, List.append_toArray, List.nil_append, List.cons_append]
  refine wpIn_scope ?_
  obtain ⟨Z, hZ⟩ : ∃ Z, editsF X (X.length + 1) n1 (-1) = Z := ⟨_, rfl⟩
  rw [hZ] at hY ⊢
  have HZ := Lib.hid hZ
  clear hZ
  gi_wp2

  refine wpIn_label ?_
  gi_wp2
  gi_loopw [4] (fun s wr => ∃ (pre : List Ed) (n f : Nat) (last : Int), X.length < n + f ∧ n ≤ X.length ∧ s = .int .i64 last ∧ (pre ++ (editsF X f n last).1, (editsF X f n last).2) = Z ∧ J pre wr ∧ Rdr W0 C1 C2 R Bd lv n false wr)
    (fun _ wr => X.length - nOf R wr)
  case atStart => exact ⟨[], n1, X.length + 1, -1, by omega, hn1, rfl, by rw [HZ.out]; rfl, HJ.out, HW.out⟩
  case round =>
    obtain ⟨pre, n, f, last, hf, hn, rfl, hz, hj, hrd⟩ := hrel
    rename World => wA
    obtain ⟨g, rfl⟩ : ∃ g, f = g + 1 := ⟨f - 1, by omega⟩
    have hnc := now_rd hS hrd
    rcases hnw : nowF X n with ⟨s, i⟩
    rw [hnw] at hnc
    dsimp only at hnc
    have hc1 := hrd.x1
    have HNC := Lib.hid hnc
    have HRD := Lib.hid hrd
    have HJ := Lib.hid hj
    have HNW := Lib.hid hnw
    have HZZ := Lib.hid hz
    clear hnc hrd hj hnw hz
    cases i with
    | false =>
      have he : editF X n last = .halts n false := editF_none (by rw [HNW.out]; rfl)
      have HZ2 : Hid ((pre, n, false) = Z) := by
        have := HZZ.out
        simp only [editsF, he, List.append_nil] at this
        exact this
      clear he
      gi_wp2_with fail
      refine ⟨trivial, ?_⟩
      refine (callsIn_wide.2 HNC.out).mono ?_
      rintro e w1 ⟨rfl, hb⟩
      have HB := Lib.hid hb
      clear hb
      gi_wp2
      refine ⟨trivial, ?_⟩
      gi_wp2
      rw [Exit.noGoto_normal]
      go_end0
      exact ⟨⟨_, rfl⟩, by rw [← HZ2.out]; exact hJ _ _ _ (Steps.of_below HB.out) HJ.out, by rw [← HZ2.out]; exact HRD.out.later HB.out⟩
    | true =>
      have hssz : s.size ≤ 9000000 := by have := now_size (n := n) hS.size; rw [HNW.out] at this; exact this
      have hnl : n < X.length := now_lt (by rw [HNW.out])
      have hpc := fun w => Tryd.strings_HasPrefix s ⟨#[64, 32]⟩ w
      rw [show (⟨#[64, 32]⟩ : ByteArray).data.toList = [64, 32] from rfl] at hpc
      by_cases hp : Lib.hasPrefix s.data.toList [64, 32] = true
      · rw [hp] at hpc
        have HPC := Lib.hid hpc
        have HP := Lib.hid hp
        clear hpc hp
        have hs2 : 2 ≤ s.size := by
          have := HP.out
          unfold Lib.hasPrefix at this
          obtain ⟨q, hq⟩ := List.isPrefixOf_iff_prefix.1 this
          rw [Lib.size_eq, ← hq]
          simp
        have hel : editLine (nowF X n) = true := by rw [HNW.out]; exact HP.out
        obtain ⟨q, hq⟩ : ∃ q, s.extract 2 s.size = q := ⟨_, rfl⟩
        have hqs : q.size ≤ 9000000 := by rw [← hq, ByteArray.size_extract]; omega
        have hhd := fun W (hW : Below wA.heap.size wA W) => head_any q ml W hqs (cell_later (HRD.out.low.trans (hW.mono HRD.out.low.size)) hS.m) (pow10_below hS.p (HRD.out.low.trans (hW.mono HRD.out.low.size))) (hS.e.later (HRD.out.low.trans (hW.mono HRD.out.low.size)))
        have HHD := Lib.hid hhd
        have HQ := Lib.hid hq
        have HEL := Lib.hid hel
        clear hhd hq hel
        gi_wp2_with fail
        refine ⟨trivial, ?_⟩
        refine (callsIn_wide.2 HNC.out).mono ?_
        rintro e w1 ⟨rfl, hb1⟩
        have HB1 := Lib.hid hb1
        clear hb1
        gi_wp2_with fail
        refine ⟨trivial, ?_⟩
        refine (callsIn_wide.2 (HPC.out _)).mono ?_
        rintro e w2 ⟨rfl, rfl⟩
        gi_wp2_with fail
        refine ⟨trivial, ?_⟩
        rw [HQ.out]
        refine (callsIn_wide.2 (HHD.out _ HB1.out)).mono ?_
        rintro e w3 ⟨⟨fr, tt, mi, rfl, hvals⟩, hb3⟩
        have HVALS := Lib.hid hvals
        have HB3 := Lib.hid hb3
        clear hvals hb3
        gi_wp2_with fail
        obtain ⟨w4, hw4⟩ : ∃ w4, w3.alloc (.cells #[.int .i64 fr, .int .i64 tt, .string ⟨#[]⟩] 46) = w4 := ⟨_, rfl⟩
        obtain ⟨N, hN⟩ : ∃ N, w3.heap.size = N := ⟨_, rfl⟩
        have hbx : w4.heap[N]? = some (.cells #[.int .i64 fr, .int .i64 tt, .string ⟨#[]⟩] 46 (0, 0)) := by rw [← hw4, ← hN]; exact World.alloc_heap_new w3 _
        have hb4 : Below wA.heap.size wA w4 := by rw [← hw4]; exact (HB1.out.trans (HB3.out.mono HB1.out.size)).alloc (Nat.le_trans HB1.out.size HB3.out.size) _
        have hNw : wA.heap.size ≤ N := by rw [← hN]; exact Nat.le_trans HB1.out.size HB3.out.size
        rw [hw4, hN]
        have HRD4 := Lib.hid (HRD.out.later hb4)
        have HB4 := Lib.hid hb4
        have HBX := Lib.hid hbx
        clear hw4 hN hbx hb4 HB1 HB3
        cases hh : headF q with
        | none =>
          have he : editF X n last = .halts n true := by
            refine editF_head HEL.out ?_
            rw [HNW.out]
            show headF (s.extract 2 s.size) = none
            rw [HQ.out]; exact hh
          have HZ2 : Hid ((pre, n, true) = Z) := by
            have := HZZ.out
            simp only [editsF, he, List.append_nil] at this
            exact this
          clear he hh
          dsimp only [Option.isSome]
          refine wpIn_wide.2 ?_
          refine wp_region_held_drew (S := fun w' : World => True) (by kernel_rfl) trivial (fun hHeld => ?_)
          refine takeH (i := 0) (d := some 33) (v := ?_) rfl rfl (by kernel_rfl) (by kernel_rfl) (by kernel_rfl) (fun _ _ _ h => h) (by rfl) ?_ (by assumption) ?_
          rotate_left 1
          · intro w hSw; (try dsimp only at hSw); go_simp; try with_reducible rfl
          simp only [Act.put, List.setIfInBounds_toArray, List.set]
          refine takeH (i := 1) (d := some 34) (v := ?_) rfl rfl (by kernel_rfl) (by kernel_rfl) (by kernel_rfl) (fun _ _ _ h => h) (by rfl) ?_ (by assumption) ?_
          rotate_left 1
          · intro w hSw; (try dsimp only at hSw); go_simp; try with_reducible rfl
          simp only [Act.put, List.setIfInBounds_toArray, List.set]
          refine takeH (i := 2) (d := some 35) (v := ?_) rfl rfl (by kernel_rfl) (by kernel_rfl) (by kernel_rfl) (fun _ _ _ h => h) (by rfl) ?_ (by assumption) ?_
          rotate_left 1
          · intro w hSw; (try dsimp only at hSw); go_simp; try with_reducible rfl
          simp only [Act.put, List.setIfInBounds_toArray, List.set]
          refine skipH (i := 3) (d := some 36) rfl rfl (by kernel_rfl) (by kernel_rfl) (by kernel_rfl) (fun _ _ _ h => h) (by rfl) (by assumption) ?_
          simp only [Act.put, List.setIfInBounds_toArray, List.set]
          refine skipH (i := 4) (d := some 37) rfl rfl (by kernel_rfl) (by kernel_rfl) (by kernel_rfl) (fun _ _ _ h => h) (by rfl) (by assumption) ?_
          simp only [Act.put, List.setIfInBounds_toArray, List.set]
          refine skipH (i := 5) (d := some 38) rfl rfl (by kernel_rfl) (by kernel_rfl) (by kernel_rfl) (fun _ _ _ h => h) (by rfl) (by assumption) ?_
          simp only [Act.put, List.setIfInBounds_toArray, List.set]
          refine skipH (i := 6) (d := some 39) rfl rfl (by kernel_rfl) (by kernel_rfl) (by kernel_rfl) (fun _ _ _ h => h) (by rfl) (by assumption) ?_
          simp only [Act.put, List.setIfInBounds_toArray, List.set]
          refine skipH (i := 7) (d := some 40) rfl rfl (by kernel_rfl) (by kernel_rfl) (by kernel_rfl) (fun _ _ _ h => h) (by rfl) (by assumption) ?_
          simp only [Act.put, List.setIfInBounds_toArray, List.set]
          refine skipH (i := 8) (d := some 41) rfl rfl (by kernel_rfl) (by kernel_rfl) (by kernel_rfl) (fun _ _ _ h => h) (by rfl) (by assumption) ?_
          simp only [Act.put, List.setIfInBounds_toArray, List.set]
          refine skipH (i := 9) (d := some 42) rfl rfl (by kernel_rfl) (by kernel_rfl) (by kernel_rfl) (fun _ _ _ h => h) (by rfl) (by assumption) ?_
          simp only [Act.put, List.setIfInBounds_toArray, List.set]
          refine skipH (i := 10) (d := some 43) rfl rfl (by kernel_rfl) (by kernel_rfl) (by kernel_rfl) (fun _ _ _ h => h) (by rfl) (by assumption) ?_
          simp only [Act.put, List.setIfInBounds_toArray, List.set]
          refine skipH (i := 11) (d := some 44) rfl rfl (by kernel_rfl) (by kernel_rfl) (by kernel_rfl) (fun _ _ _ h => h) (by rfl) (by assumption) ?_
          simp only [Act.put, List.setIfInBounds_toArray, List.set]
          refine skipH (i := 12) (d := some 45) rfl rfl (by kernel_rfl) (by kernel_rfl) (by kernel_rfl) (fun _ _ _ h => h) (by rfl) (by assumption) ?_
          simp only [Act.put, List.setIfInBounds_toArray, List.set]
          refine skipH (i := 13) (d := some 46) rfl rfl (by kernel_rfl) (by kernel_rfl) (by kernel_rfl) (fun _ _ _ h => h) (by rfl) (by assumption) ?_
          simp only [Act.put, List.setIfInBounds_toArray, List.set]
          refine takeH (i := 14) (d := some 47) (v := ?_) rfl rfl (by kernel_rfl) (by kernel_rfl) (by kernel_rfl) (fun _ _ _ h => h) (by rfl) ?_ (by assumption) ?_
          rotate_left 1
          · intro w hSw; (try dsimp only at hSw); go_simp; try with_reducible rfl
          simp only [Act.put, List.setIfInBounds_toArray, List.set]
          refine wpAnyH_done (by kernel_rfl) ?_ _
          have x2 : w4.drew.cell? ⟨C2, 0, none⟩ = some (.pointer (some ⟨Bd, 0, none⟩)) := HRD4.out.x2
          have d0 : w4.drew.cell? ⟨Bd, 0, none⟩ = some (.bool false) := HRD4.out.d0
          have f0 : w4.drew.frozen? ⟨Bd, 0, none⟩ = false := Lib.frozen_of_heap (w := w4) HRD4.out.d 0
          gi_wp2
          rw [Exit.noGoto_normal]
          go_end0
          exact ⟨⟨_, rfl⟩, by rw [← HZ2.out]; exact hJ _ _ _ ((Steps.of_below HB4.out).setCell (.inr (.inl rfl)) _).drew HJ.out, by rw [← HZ2.out]; exact (HRD4.out.setBad hBd true).drew⟩
        | some p =>
          obtain ⟨e0, m⟩ := p
          obtain ⟨rfl, rfl, rfl⟩ := HVALS.out e0 m hh
          dsimp only [Option.isSome]
          have HH := Lib.hid hh
          clear hh HVALS
          have y0 : w4.drew.cell? ⟨N, 0, none⟩ = some (.int .i64 e0.fr) := by show w4.cell? _ = _; rw [Lib.cell_of_heap HBX.out]; rfl
          have y1 : w4.drew.cell? ⟨N, 1, none⟩ = some (.int .i64 e0.tt) := by show w4.cell? _ = _; rw [Lib.cell_of_heap HBX.out]; rfl
          obtain ⟨nx, hn2⟩ : ∃ nx, nextF ⟨e0.fr, e0.tt, signOf m⟩ last = nx := ⟨_, rfl⟩
          have hnx := fun W => next_any ⟨e0.fr, e0.tt, signOf m⟩ last W
          rw [hn2] at hnx
          have HNX := Lib.hid hnx
          have HN2 := Lib.hid hn2
          have hm6 : m ≤ 65536 := (head_inv HH.out).2.2.2.1
          have HHD2 : Hid (headF ((nowF X n).1.extract 2 (nowF X n).1.size) = some (e0, m)) := by
            rw [HNW.out]
            show headF (s.extract 2 s.size) = _
            rw [HQ.out]; exact HH.out
          clear hnx hn2
          refine wpIn_wide.2 ?_
          refine wp_region_held_drew (S := fun w' : World => w'.cell? ⟨N, 0, none⟩ = some (.int .i64 e0.fr) ∧ w'.cell? ⟨N, 1, none⟩ = some (.int .i64 e0.tt)) (by kernel_rfl) ⟨y0, y1⟩ (fun hHeld => ?_)
          refine takeH (i := 0) (d := some 33) (v := ?_) rfl rfl (by kernel_rfl) (by kernel_rfl) (by kernel_rfl) (fun _ _ _ h => h) (by rfl) ?_ (by assumption) ?_
          rotate_left 1
          · intro w hSw; (try dsimp only at hSw); go_simp; try with_reducible rfl
          simp only [Act.put, List.setIfInBounds_toArray, List.set]
          refine takeH (i := 1) (d := some 34) (v := ?_) rfl rfl (by kernel_rfl) (by kernel_rfl) (by kernel_rfl) (fun _ _ _ h => h) (by rfl) ?_ (by assumption) ?_
          rotate_left 1
          · intro w hSw; (try dsimp only at hSw); go_simp; try with_reducible rfl
          simp only [Act.put, List.setIfInBounds_toArray, List.set]
          refine takeH (i := 2) (d := some 35) (v := ?_) rfl rfl (by kernel_rfl) (by kernel_rfl) (by kernel_rfl) (fun _ _ _ h => h) (by rfl) ?_ (by assumption) ?_
          rotate_left 1
          · intro w hSw; (try dsimp only at hSw); go_simp; try with_reducible rfl
          simp only [Act.put, List.setIfInBounds_toArray, List.set]
          refine takeH (i := 3) (d := some 36) (v := ?_) rfl rfl (by kernel_rfl) (by kernel_rfl) (by kernel_rfl) (fun _ _ _ h => h) (by rfl) ?_ (by assumption) ?_
          rotate_left 1
          · intro w hSw; (try dsimp only at hSw); go_simp; try with_reducible rfl
          simp only [Act.put, List.setIfInBounds_toArray, List.set]
          refine takeH (i := 4) (d := some 37) (v := ?_) rfl rfl (by kernel_rfl) (by kernel_rfl) (by kernel_rfl) (fun _ _ _ h => h) (by rfl) ?_ (by assumption) ?_
          rotate_left 1
          · intro w hSw; (try dsimp only at hSw); go_simp; try with_reducible rfl
          simp only [Act.put, List.setIfInBounds_toArray, List.set]
          refine takeH (i := 5) (d := some 38) (v := ?_) rfl rfl (by kernel_rfl) (by kernel_rfl) (by kernel_rfl) (fun _ _ _ h => h) (by rfl) ?_ (by assumption) ?_
          rotate_left 1
          · intro w hSw; (try dsimp only at hSw); go_simp; try with_reducible rfl
          simp only [Act.put, List.setIfInBounds_toArray, List.set]
          refine takeH (i := 6) (d := some 39) (v := ?_) rfl rfl (by kernel_rfl) (by kernel_rfl) (by kernel_rfl) (fun _ _ _ h => h) (by rfl) ?_ (by assumption) ?_
          rotate_left 1
          · intro w hSw; (try dsimp only at hSw); go_simp; try with_reducible rfl
          simp only [Act.put, List.setIfInBounds_toArray, List.set]
          refine takeH (i := 7) (d := some 40) (v := ?_) rfl rfl (by kernel_rfl) (by kernel_rfl) (by kernel_rfl) (fun _ _ _ h => h) (by rfl) ?_ (by assumption) ?_
          rotate_left 1
          · intro w hSw; (try dsimp only at hSw); go_simp; try with_reducible rfl
          simp only [Act.put, List.setIfInBounds_toArray, List.set]
          refine takeH (i := 8) (d := some 41) (v := ?_) rfl rfl (by kernel_rfl) (by kernel_rfl) (by kernel_rfl) (fun _ _ _ h => h) (by rfl) ?_ (by assumption) ?_
          rotate_left 1
          · intro w hSw; (try dsimp only at hSw); go_simp; try with_reducible rfl
          simp only [Act.put, List.setIfInBounds_toArray, List.set]
          refine takeH (i := 11) (d := some 44) (v := ?_) rfl rfl (by kernel_rfl) (by kernel_rfl) (by kernel_rfl) (fun _ _ _ h => h) (by rfl) ?_ (by assumption) ?_
          rotate_left 1
          · intro w hSw; (try dsimp only at hSw); go_simp; try with_reducible rfl
          simp only [Act.put, List.setIfInBounds_toArray, List.set]
          refine wpAnyH_ready (rs := [9]) (by kernel_rfl) (by simp) ?_
          refine AllReadyH.cons rfl (fun K hK => ?_) AllReadyH.nil
          go_simp
          go_at_call 46
          refine (sign_any m _).mono ?_
          rintro e5 w5 ⟨rfl, rfl⟩
          go_wp2_with fail
          refine hK.out _ _ ⟨y0, y1⟩ (fun hHeld => ?_)
          clear hK K
          refine takeH (i := 10) (d := some 43) (v := ?_) rfl rfl (by kernel_rfl) (by kernel_rfl) (by kernel_rfl) (fun _ _ _ h => h) (by rfl) ?_ (by assumption) ?_
          rotate_left 1
          · intro w hSw; (try dsimp only at hSw); go_simp; try with_reducible rfl
          simp only [Act.put, List.setIfInBounds_toArray, List.set]
          refine wpAnyH_ready (rs := [12]) (by kernel_rfl) (by simp) ?_
          refine AllReadyH.cons rfl (fun K hK => ?_) AllReadyH.nil
          go_simp
          go_at_call 30
          refine (HNX.out _).mono ?_
          rintro e6 w6 ⟨rfl, hb6⟩
          have z0 := cell_later hb6 y0
          have z1 := cell_later hb6 y1
          have HB6 := Lib.hid hb6
          clear hb6
          go_wp2_with fail
          refine hK.out _ _ ⟨z0, z1⟩ (fun hHeld => ?_)
          clear hK K
          refine takeH (i := 13) (d := some 46) (v := ?_) rfl rfl (by kernel_rfl) (by kernel_rfl) (by kernel_rfl) (fun _ _ _ h => h) (by rfl) ?_ (by assumption) ?_
          rotate_left 1
          · intro w hSw; (try dsimp only at hSw); go_simp; try with_reducible rfl
          simp only [Act.put, List.setIfInBounds_toArray, List.set]
          refine takeH (i := 14) (d := some 47) (v := ?_) rfl rfl (by kernel_rfl) (by kernel_rfl) (by kernel_rfl) (fun _ _ _ h => h) (by rfl) ?_ (by assumption) ?_
          rotate_left 1
          · intro w hSw; (try dsimp only at hSw); go_simp; try with_reducible rfl
          simp only [Act.put, List.setIfInBounds_toArray, List.set]
          refine wpAnyH_done (by kernel_rfl) ?_ _
          have HRD6 := Lib.hid (HRD4.out.drew.later HB6.out)
          have HS6 := Lib.hid ((Steps.of_below (R := R) (Bd := Bd) HB4.out).drew.trans (Steps.of_below HB6.out))
          have hbx6 : w6.heap[N]? = some (.cells #[.int .i64 e0.fr, .int .i64 e0.tt, .string ⟨#[]⟩] 46 (0, 0)) := (HB6.out.block N (Array.getElem?_eq_some_iff.1 HBX.out).1).trans HBX.out
          have HBX6 := Lib.hid hbx6
          clear hbx6 y0 y1 z0 z1 HNX HB6 HBX HRD4 HB4
          cases nx with
          | false =>
            have he : editF X n last = .halts n true := editF_next HEL.out HHD2.out HN2.out
            have HZ2 : Hid ((pre, n, true) = Z) := by
              have := HZZ.out
              simp only [editsF, he, List.append_nil] at this
              exact this
            clear he
            have x2 : w6.cell? ⟨C2, 0, none⟩ = some (.pointer (some ⟨Bd, 0, none⟩)) := HRD6.out.x2
            have d0 : w6.cell? ⟨Bd, 0, none⟩ = some (.bool false) := HRD6.out.d0
            have f0 : w6.frozen? ⟨Bd, 0, none⟩ = false := Lib.frozen_of_heap HRD6.out.d 0
            gi_wp2
            rw [Exit.noGoto_normal]
            go_end0
            exact ⟨⟨_, rfl⟩, by rw [← HZ2.out]; exact hJ _ _ _ (HS6.out.setCell (.inr (.inl rfl)) _) HJ.out, by rw [← HZ2.out]; exact HRD6.out.setBad hBd true⟩
          | true =>
            simp only [Bool.not_true]
            have x1 : w6.cell? ⟨C1, 0, none⟩ = some (.pointer (some ⟨R, 0, none⟩)) := HRD6.out.x1
            have r1 : w6.cell? ⟨R, 1, none⟩ = some (.int .i64 (n : Int)) := HRD6.out.r1
            have f1 : w6.frozen? ⟨R, 1, none⟩ = false := Lib.frozen_of_heap HRD6.out.r 1
            gi_wp2
            obtain ⟨w7, hw7⟩ : ∃ w7, w6.setCell ⟨R, 1, none⟩ (.int .i64 ((n : Int) + 1)) = w7 := ⟨_, rfl⟩
            have hne := HRD6.out.ne
            have hlt := HRD.out.lt
            have HRD7 : Hid (Rdr W0 C1 C2 R Bd lv (n + 1) false w7) := by
              have := HRD6.out.setN hR (n + 1)
              rw [show ((n + 1 : Nat) : Int) = (n : Int) + 1 by omega, hw7] at this
              exact this
            have HS7 : Hid (Steps R Bd wA w7) := by
              rw [← hw7]
              exact HS6.out.setCell (.inl rfl) _
            have HBX7 : Hid (w7.heap[N]? = some (.cells #[.int .i64 e0.fr, .int .i64 e0.tt, .string ⟨#[]⟩] 46 (0, 0))) := by
              have h1 := HBX6.out
              have h2 : N ≠ R := by omega
              rw [← hw7]
              exact (Below.heap_setCell _ _ _ _ h2).trans h1
            rw [hw7]
            clear hw7 x1 r1 f1 HBX6 HS6 HRD6 hne
            gi_loopw [58] (fun s wr2 => ∃ (k : Nat) (tc : ByteArray), s = .int .i64 (k : Int) ∧ k ≤ m ∧ n + 1 + k ≤ X.length ∧ takeF X m (n + 1) ⟨#[]⟩ = takeF X (m - k) (n + 1 + k) tc ∧ tc.size ≤ k * 9000001 ∧ Rdr W0 C1 C2 R Bd lv (n + 1 + k) false wr2 ∧
                wr2.heap[N]? = some (.cells #[.int .i64 e0.fr, .int .i64 e0.tt, .string tc] 46 (0, 0)) ∧ Steps R Bd wA wr2) (fun s _ => m - (intOf s).toNat)
            case atStart => exact ⟨0, ⟨#[]⟩, rfl, Nat.zero_le _, by omega, rfl, Nat.zero_le _, HRD7.out, HBX7.out, HS7.out⟩
            case round =>
              obtain ⟨k, tc, rfl, hk, hkl, htk, htc, hrd, hbx, hst⟩ := hrel
              by_cases hkm : k < m
              · have hnc := now_rd hS hrd
                rcases hnw1 : nowF X (n + 1 + k) with ⟨s1, i1⟩
                rw [hnw1] at hnc
                dsimp only at hnc
                have x1 := hrd.x1
                have hs1 : s1.size ≤ 9000000 := by have := now_size (n := n + 1 + k) hS.size; rw [hnw1] at this; exact this
                have htk1 : takeF X (m - k) (n + 1 + k) tc = if plusLine (s1, i1) = true then takeF X (m - (k + 1)) (n + 1 + (k + 1)) (tc ++ (s1.extract 1 s1.size ++ ⟨#[10]⟩)) else (tc, n + 1 + k, false) := by
                  rw [show m - k = (m - (k + 1)) + 1 by omega]
                  conv => lhs; unfold takeF
                  rw [hnw1]
                  rfl
                rw [htk1] at htk
                have HNC1 := Lib.hid hnc
                have HRD1 := Lib.hid hrd
                have HST1 := Lib.hid hst
                have HBX1 := Lib.hid hbx
                have HNW1 := Lib.hid hnw1
                have HTK := Lib.hid htk
                have hpc := fun w => Tryd.strings_HasPrefix s1 ⟨#[43]⟩ w
                rw [show (⟨#[43]⟩ : ByteArray).data.toList = [43] from rfl] at hpc
                clear hnc hrd hst hbx hnw1 htk htk1
                by_cases hpl : plusLine (s1, i1) = true
                · have hi1 : i1 = true := by unfold plusLine at hpl; simp only [Bool.and_eq_true] at hpl; exact hpl.1
                  have hp1 : Lib.hasPrefix s1.data.toList [43] = true := by unfold plusLine at hpl; simp only [Bool.and_eq_true] at hpl; exact hpl.2
                  subst hi1
                  rw [hp1] at hpc
                  have hs2 : 1 ≤ s1.size := by
                    unfold Lib.hasPrefix at hp1
                    obtain ⟨q, hq⟩ := List.isPrefixOf_iff_prefix.1 hp1
                    rw [Lib.size_eq, ← hq]
                    simp
                  have HTK2 : Hid (takeF X m (n + 1) ⟨#[]⟩ = takeF X (m - (k + 1)) (n + 1 + (k + 1)) (tc ++ (s1.extract 1 s1.size ++ ⟨#[10]⟩))) := by
                    have := HTK.out
                    rw [if_pos hpl] at this
                    exact this
                  have hnl1 : n + 1 + k < X.length := now_lt (by rw [HNW1.out])
                  have HPC1 := Lib.hid hpc
                  clear hpc hpl hp1 HTK
                  gi_wp2_with fail
                  refine ⟨trivial, ?_⟩
                  refine (callsIn_wide.2 HNC1.out).mono ?_
                  rintro e8 w8 ⟨rfl, hb8⟩
                  have HB8 := Lib.hid hb8
                  clear hb8
                  gi_wp2_with fail
                  refine ⟨trivial, ?_⟩
                  refine (callsIn_wide.2 (HPC1.out _)).mono ?_
                  rintro e9 w9 ⟨rfl, rfl⟩
                  have HBX8 : Hid (w9.heap[N]? = some (.cells #[.int .i64 e0.fr, .int .i64 e0.tt, .string tc] 46 (0, 0))) := (HB8.out.block N (Array.getElem?_eq_some_iff.1 HBX1.out).1).trans HBX1.out
                  have y2 : w9.drew.cell? ⟨N, 2, none⟩ = some (.string tc) := by show w9.cell? _ = _; rw [Lib.cell_of_heap HBX8.out]; rfl
                  have f2 : w9.drew.frozen? ⟨N, 2, none⟩ = false := Lib.frozen_of_heap (w := w9) HBX8.out 2
                  obtain ⟨q1, hq1⟩ : ∃ q1, s1.extract 1 s1.size = q1 := ⟨_, rfl⟩
                  have hq1s : q1.size ≤ 9000000 := by rw [← hq1, ByteArray.size_extract]; omega
                  have HQ1 := Lib.hid hq1
                  clear hq1
                  gi_wp2_with fail
                  refine wpIn_wide.2 ?_
                  have hex1 : (s1.extract 1 s1.size).size = s1.size - 1 := by rw [ByteArray.size_extract]; omega
                  have hap : (s1.extract 1 s1.size ++ (⟨#[10]⟩ : ByteArray)).size = s1.size - 1 + 1 := by rw [ByteArray.size_append, hex1]; rfl
                  have h1 : ¬ 9223372036854775807 < tc.size + (s1.extract 1 s1.size ++ ⟨#[10]⟩).size := by rw [hap]; omega
                  have h2 : ¬ 9223372036854775807 < tc.size + ((s1.extract 1 s1.size).size + 1) := by rw [hex1]; omega
                  have h3 : ¬ 9223372036854775807 < tc.size + (s1.size - 1 + 1) := by omega
                  clear hex1 hap
                  go_region
                  have HRD8 := Lib.hid (HRD1.out.later HB8.out)
                  obtain ⟨tc2, htc2⟩ : ∃ tc2, tc ++ (s1.extract 1 s1.size ++ ⟨#[10]⟩) = tc2 := ⟨_, rfl⟩
                  have htcs : tc2.size ≤ (k + 1) * 9000001 := by
                    rw [← htc2, ByteArray.size_append, ByteArray.size_append, ByteArray.size_extract]
                    have : (⟨#[10]⟩ : ByteArray).size = 1 := rfl
                    omega
                  have HTK3 := HTK2.out
                  rw [htc2] at HTK3 ⊢
                  have HTK4 := Lib.hid HTK3
                  clear HTK3 HTK2 htc2 h1 h2 h3
                  obtain ⟨w10, hw10⟩ : ∃ w10, (w9.setCell ⟨N, 2, none⟩ (.string tc2)).drew = w10 := ⟨_, rfl⟩
                  rw [hw10]
                  have hNn := HRD8.out.lt
                  have hNn0 := HRD1.out.lt
                  have HRD10 : Hid (Rdr W0 C1 C2 R Bd lv (n + 1 + k) false w10) := by
                    rw [← hw10]
                    exact (HRD8.out.box (by omega) (by omega) (by omega) (by omega) (by omega) _).drew
                  have HST10 : Hid (Steps R Bd wA w10) := by
                    rw [← hw10]
                    exact ((HST1.out.trans (Steps.of_below HB8.out)).setCell (.inr (.inr hNw)) _).drew
                  have HBX10 : Hid (w10.heap[N]? = some (.cells #[.int .i64 e0.fr, .int .i64 e0.tt, .string tc2] 46 (0, 0))) := by
                    rw [← hw10]
                    have h1 := HBX8.out
                    show (w9.setCell ⟨N, 2, none⟩ (.string tc2)).heap[N]? = _
                    simp [World.setCell, Array.getElem?_modify, h1]
                  have x1 : w10.cell? ⟨C1, 0, none⟩ = some (.pointer (some ⟨R, 0, none⟩)) := HRD10.out.x1
                  have r1 : w10.cell? ⟨R, 1, none⟩ = some (.int .i64 ((n + 1 + k : Nat) : Int)) := HRD10.out.r1
                  have f1 : w10.frozen? ⟨R, 1, none⟩ = false := Lib.frozen_of_heap HRD10.out.r 1
                  clear hw10 y2 f2 hNn hNn0
                  gi_wp2
                  go_roundw
                  case rel =>
                    refine ⟨k + 1, tc2, by go_num, by omega, by omega, HTK4.out, htcs, ?_, ?_, HST10.out.setCell (.inl rfl) _⟩
                    · have := HRD10.out.setN hR (n + 1 + (k + 1))
                      rw [show ((n + 1 + (k + 1) : Nat) : Int) = (n : Int) + 1 + (k : Int) + 1 by omega] at this
                      exact this
                    · exact (Below.heap_setCell _ _ _ _ (by show N ≠ R; omega)).trans HBX10.out
                  case measure => simp [intOf]; omega
                · have HTK2 : Hid (takeF X m (n + 1) ⟨#[]⟩ = (tc, n + 1 + k, false)) := by
                    have := HTK.out
                    rw [if_neg hpl] at this
                    exact this
                  have he : editF X n last = .halts (n + 1 + k) true := by
                    have := editF_take HEL.out HHD2.out HN2.out (by rw [HTK2.out])
                    rw [HTK2.out] at this
                    exact this
                  have HZ2 : Hid ((pre, n + 1 + k, true) = Z) := by
                    have := HZZ.out
                    simp only [editsF, he, List.append_nil] at this
                    exact this
                  clear he HTK
                  cases i1 with
                  | false =>
                    clear hpl hpc
                    gi_wp2_with fail
                    refine ⟨trivial, ?_⟩
                    refine (callsIn_wide.2 HNC1.out).mono ?_
                    rintro e8 w8 ⟨rfl, hb8⟩
                    have HRD8 := Lib.hid (HRD1.out.later hb8)
                    have HS8 := Lib.hid (HST1.out.trans (Steps.of_below hb8))
                    have x2 : w8.cell? ⟨C2, 0, none⟩ = some (.pointer (some ⟨Bd, 0, none⟩)) := HRD8.out.x2
                    have d0 : w8.cell? ⟨Bd, 0, none⟩ = some (.bool false) := HRD8.out.d0
                    have f0 : w8.frozen? ⟨Bd, 0, none⟩ = false := Lib.frozen_of_heap HRD8.out.d 0
                    clear hb8
                    gi_wp2
                    refine ⟨trivial, ?_⟩
                    gi_wp2
                    rw [Exit.noGoto_normal]
                    go_end0
                    exact ⟨⟨_, rfl⟩, by rw [← HZ2.out]; exact hJ _ _ _ (HS8.out.setCell (.inr (.inl rfl)) _) HJ.out, by rw [← HZ2.out]; exact HRD8.out.setBad hBd true⟩
                  | true =>
                    have hp1 : Lib.hasPrefix s1.data.toList [43] = false := by
                      unfold plusLine at hpl
                      simpa using hpl
                    rw [hp1] at hpc
                    have HPC1 := Lib.hid hpc
                    clear hpc hpl hp1
                    gi_wp2_with fail
                    refine ⟨trivial, ?_⟩
                    refine (callsIn_wide.2 HNC1.out).mono ?_
                    rintro e8 w8 ⟨rfl, hb8⟩
                    have HRD8 := Lib.hid (HRD1.out.later hb8)
                    have HS8 := Lib.hid (HST1.out.trans (Steps.of_below hb8))
                    clear hb8
                    gi_wp2_with fail
                    refine ⟨trivial, ?_⟩
                    refine (callsIn_wide.2 (HPC1.out _)).mono ?_
                    rintro e9 w9 ⟨rfl, rfl⟩
                    have x2 : w9.cell? ⟨C2, 0, none⟩ = some (.pointer (some ⟨Bd, 0, none⟩)) := HRD8.out.x2
                    have d0 : w9.cell? ⟨Bd, 0, none⟩ = some (.bool false) := HRD8.out.d0
                    have f0 : w9.frozen? ⟨Bd, 0, none⟩ = false := Lib.frozen_of_heap HRD8.out.d 0
                    gi_wp2
                    rw [Exit.noGoto_normal]
                    go_end0
                    exact ⟨⟨_, rfl⟩, by rw [← HZ2.out]; exact hJ _ _ _ (HS8.out.setCell (.inr (.inl rfl)) _) HJ.out, by rw [← HZ2.out]; exact HRD8.out.setBad hBd true⟩
              · obtain rfl : m = k := by omega
                have htk0 : takeF X m (n + 1) ⟨#[]⟩ = (tc, n + 1 + m, true) := by rw [htk, Nat.sub_self]; rfl
                obtain ⟨n2, hn2⟩ : ∃ n2, n + 1 + m = n2 := ⟨_, rfl⟩
                rw [hn2] at htk0 hrd hkl
                have hnn2 : n < n2 := by omega
                have hnc := now_rd hS hrd
                rcases hnw1 : nowF X n2 with ⟨s1, i1⟩
                rw [hnw1] at hnc
                dsimp only at hnc
                have x1 := hrd.x1
                have HNC1 := Lib.hid hnc
                have HRD1 := Lib.hid hrd
                have HST1 := Lib.hid hst
                have HBX1 := Lib.hid hbx
                have HNW1 := Lib.hid hnw1
                have HTK := Lib.hid htk0
                have HN22 := Lib.hid hn2
                clear hnc hrd hst hbx hnw1 htk htk0 hn2
                have h42 : (takeF X m (n + 1) ⟨#[]⟩).2.2 = true := by rw [HTK.out]
                have H42 := Lib.hid h42
                clear h42
                cases i1 with
                | false =>
                  gi_wp2_with fail
                  refine ⟨trivial, ?_⟩
                  refine (callsIn_wide.2 HNC1.out).mono ?_
                  rintro e8 w8 ⟨rfl, hb8⟩
                  have HRD8 := Lib.hid (HRD1.out.later hb8)
                  have HS8 := Lib.hid (HST1.out.trans (Steps.of_below hb8))
                  have HBX8 : Hid (w8.heap[N]? = some (.cells #[.int .i64 e0.fr, .int .i64 e0.tt, .string tc] 46 (0, 0))) := (hb8.block N (Array.getElem?_eq_some_iff.1 HBX1.out).1).trans HBX1.out
                  clear hb8
                  have hg : editF X n last = .gives ⟨e0.fr, e0.tt, tc⟩ n2 := (by
                      have := editF_full (last := last) HEL.out HHD2.out HN2.out H42.out (by rw [HTK.out]; unfold dashAt; rw [HNW1.out]; rfl)
                      rw [HTK.out] at this
                      exact this)
                  have HZ3 : Hid ((pre ++ (⟨e0.fr, e0.tt, tc⟩ : Ed) :: (editsF X g n2 e0.tt).1, (editsF X g n2 e0.tt).2) = Z) := by
                    have := HZZ.out
                    simp only [editsF, hg] at this
                    exact this
                  have hpre : (pre ++ [(⟨e0.fr, e0.tt, tc⟩ : Ed)]) <+: Z.1 := by
                    rw [← HZ3.out]
                    exact ⟨(editsF X g n2 e0.tt).1, by simp⟩
                  obtain ⟨fn, tmps, assign, body, hy, hRnd⟩ := hY pre ⟨e0.fr, e0.tt, tc⟩ wA w8 HJ.out HS8.out hpre
                  simp only [edV] at hy
                  have c0 : (w8).cell? ⟨N, 0, none⟩ = some (.int .i64 e0.fr) := by rw [Lib.cell_of_heap HBX8.out]; rfl
                  have c1 : (w8).cell? ⟨N, 1, none⟩ = some (.int .i64 e0.tt) := by rw [Lib.cell_of_heap HBX8.out]; rfl
                  have c2 : (w8).cell? ⟨N, 2, none⟩ = some (.string tc) := by rw [Lib.cell_of_heap HBX8.out]; rfl
                  clear hg hpre
                  gi_wp2_with fail
                  refine hRnd.mono ?_
                  rintro e W3 ⟨rfl, hJ3, hk3⟩
                  have HRD3 := Lib.hid (HRD8.out.keep hk3.1 hR hBd hlim)
                  have HBX3 : Hid (W3.heap[N]? = some (.cells #[.int .i64 e0.fr, .int .i64 e0.tt, .string tc] 46 (0, 0))) := (hk3.2 N hNw (Array.getElem?_eq_some_iff.1 HBX8.out).1).trans HBX8.out
                  have c3 : W3.cell? ⟨N, 1, none⟩ = some (.int .i64 e0.tt) := by rw [Lib.cell_of_heap HBX3.out]; rfl
                  have HJ3 := Lib.hid hJ3
                  clear hJ3 hk3 hy hRnd c0 c1 c2
                  gi_wp2
                  go_roundw
                  case rel =>
                    exact ⟨pre ++ [⟨e0.fr, e0.tt, tc⟩], n2, g, e0.tt, by omega, by omega, rfl, by rw [← HZ3.out]; simp, HJ3.out, HRD3.out⟩
                  case measure =>
                    rw [HRD3.out.nOf, HRD.out.nOf]
                    omega
                | true =>
                  have hnl2 : n2 < X.length := now_lt (by rw [HNW1.out])
                  cases h45 : s1.toList == [45] with
                  | false =>
                    gi_wp2_with fail
                    refine ⟨trivial, ?_⟩
                    refine (callsIn_wide.2 HNC1.out).mono ?_
                    rintro e8 w8 ⟨rfl, hb8⟩
                    have HRD8 := Lib.hid (HRD1.out.later hb8)
                    have HS8 := Lib.hid (HST1.out.trans (Steps.of_below hb8))
                    have HBX8 : Hid (w8.heap[N]? = some (.cells #[.int .i64 e0.fr, .int .i64 e0.tt, .string tc] 46 (0, 0))) := (hb8.block N (Array.getElem?_eq_some_iff.1 HBX1.out).1).trans HBX1.out
                    clear hb8
                    have hg : editF X n last = .gives ⟨e0.fr, e0.tt, tc⟩ n2 := (by
                        have := editF_full (last := last) HEL.out HHD2.out HN2.out H42.out (by rw [HTK.out]; unfold dashAt; rw [HNW1.out]; exact h45)
                        rw [HTK.out] at this
                        exact this)
                    have HZ3 : Hid ((pre ++ (⟨e0.fr, e0.tt, tc⟩ : Ed) :: (editsF X g n2 e0.tt).1, (editsF X g n2 e0.tt).2) = Z) := by
                      have := HZZ.out
                      simp only [editsF, hg] at this
                      exact this
                    have hpre : (pre ++ [(⟨e0.fr, e0.tt, tc⟩ : Ed)]) <+: Z.1 := by
                      rw [← HZ3.out]
                      exact ⟨(editsF X g n2 e0.tt).1, by simp⟩
                    obtain ⟨fn, tmps, assign, body, hy, hRnd⟩ := hY pre ⟨e0.fr, e0.tt, tc⟩ wA w8 HJ.out HS8.out hpre
                    simp only [edV] at hy
                    have c0 : (w8).cell? ⟨N, 0, none⟩ = some (.int .i64 e0.fr) := by rw [Lib.cell_of_heap HBX8.out]; rfl
                    have c1 : (w8).cell? ⟨N, 1, none⟩ = some (.int .i64 e0.tt) := by rw [Lib.cell_of_heap HBX8.out]; rfl
                    have c2 : (w8).cell? ⟨N, 2, none⟩ = some (.string tc) := by rw [Lib.cell_of_heap HBX8.out]; rfl
                    clear hg hpre
                    gi_wp2_with fail
                    refine hRnd.mono ?_
                    rintro e W3 ⟨rfl, hJ3, hk3⟩
                    have HRD3 := Lib.hid (HRD8.out.keep hk3.1 hR hBd hlim)
                    have HBX3 : Hid (W3.heap[N]? = some (.cells #[.int .i64 e0.fr, .int .i64 e0.tt, .string tc] 46 (0, 0))) := (hk3.2 N hNw (Array.getElem?_eq_some_iff.1 HBX8.out).1).trans HBX8.out
                    have c3 : W3.cell? ⟨N, 1, none⟩ = some (.int .i64 e0.tt) := by rw [Lib.cell_of_heap HBX3.out]; rfl
                    have HJ3 := Lib.hid hJ3
                    clear hJ3 hk3 hy hRnd c0 c1 c2
                    gi_wp2
                    go_roundw
                    case rel =>
                      exact ⟨pre ++ [⟨e0.fr, e0.tt, tc⟩], n2, g, e0.tt, by omega, by omega, rfl, by rw [← HZ3.out]; simp, HJ3.out, HRD3.out⟩
                    case measure =>
                      rw [HRD3.out.nOf, HRD.out.nOf]
                      omega
                  | true =>
                    have hda : dashAt X (takeF X m (n + 1) ⟨#[]⟩).2.1 = true := by rw [HTK.out]; unfold dashAt; rw [HNW1.out]; exact h45
                    have HDA := Lib.hid hda
                    clear hda
                    by_cases hm0 : m = 0
                    · have hdb : dashBad X m n2 = true := by unfold dashBad; simp [hm0]
                      have he : editF X n last = .halts n2 true := by
                        have := editF_bad (last := last) HEL.out HHD2.out HN2.out H42.out HDA.out (by rw [HTK.out]; exact hdb)
                        rw [HTK.out] at this
                        exact this
                      have HZ2 : Hid ((pre, n2, true) = Z) := by
                        have := HZZ.out
                        simp only [editsF, he, List.append_nil] at this
                        exact this
                      clear he
                      have g0 : ((m : Int) == 0) = true := by simp; omega
                      clear hdb hm0
                      gi_wp2_with fail
                      refine ⟨trivial, ?_⟩
                      refine (callsIn_wide.2 HNC1.out).mono ?_
                      rintro e8 w8 ⟨rfl, hb8⟩
                      have HRD8 := Lib.hid (HRD1.out.later hb8)
                      have HS8 := Lib.hid (HST1.out.trans (Steps.of_below hb8))
                      have HBX8 : Hid (w8.heap[N]? = some (.cells #[.int .i64 e0.fr, .int .i64 e0.tt, .string tc] 46 (0, 0))) := (hb8.block N (Array.getElem?_eq_some_iff.1 HBX1.out).1).trans HBX1.out
                      clear hb8
                      gi_wp2_with fail
                      refine wpIn_wide.2 ?_
                      refine wp_region_held_drew (S := fun w' : World => True) (by kernel_rfl) trivial (fun hHeld => ?_)
                      refine takeH (i := 0) (d := some 99) (v := ?_) rfl rfl (by kernel_rfl) (by kernel_rfl) (by kernel_rfl) (fun _ _ _ h => h) (by rfl) ?_ (by assumption) ?_
                      rotate_left 1
                      · intro w hSw; (try dsimp only at hSw); go_simp; try with_reducible rfl
                      simp only [Act.put, List.setIfInBounds_toArray, List.set]
                      refine takeH (i := 1) (d := some 100) (v := ?_) rfl rfl (by kernel_rfl) (by kernel_rfl) (by kernel_rfl) (fun _ _ _ h => h) (by rfl) ?_ (by assumption) ?_
                      rotate_left 1
                      · intro w hSw; (try dsimp only at hSw); go_simp; try with_reducible rfl
                      simp only [Act.put, List.setIfInBounds_toArray, List.set]
                      refine takeH (i := 2) (d := some 101) (v := ?_) rfl rfl (by kernel_rfl) (by kernel_rfl) (by kernel_rfl) (fun _ _ _ h => h) (by rfl) ?_ (by assumption) ?_
                      rotate_left 1
                      · intro w hSw; (try dsimp only at hSw); go_simp; try with_reducible rfl
                      simp only [Act.put, List.setIfInBounds_toArray, List.set]
                      refine skipH (i := 3) (d := some 102) rfl rfl (by kernel_rfl) (by kernel_rfl) (by kernel_rfl) (fun _ _ _ h => h) (by rfl) (by assumption) ?_
                      simp only [Act.put, List.setIfInBounds_toArray, List.set]
                      refine skipH (i := 4) (d := some 103) rfl rfl (by kernel_rfl) (by kernel_rfl) (by kernel_rfl) (fun _ _ _ h => h) (by rfl) (by assumption) ?_
                      simp only [Act.put, List.setIfInBounds_toArray, List.set]
                      refine skipH (i := 5) (d := some 104) rfl rfl (by kernel_rfl) (by kernel_rfl) (by kernel_rfl) (fun _ _ _ h => h) (by rfl) (by assumption) ?_
                      simp only [Act.put, List.setIfInBounds_toArray, List.set]
                      refine skipH (i := 6) (d := some 105) rfl rfl (by kernel_rfl) (by kernel_rfl) (by kernel_rfl) (fun _ _ _ h => h) (by rfl) (by assumption) ?_
                      simp only [Act.put, List.setIfInBounds_toArray, List.set]
                      refine skipH (i := 7) (d := some 106) rfl rfl (by kernel_rfl) (by kernel_rfl) (by kernel_rfl) (fun _ _ _ h => h) (by rfl) (by assumption) ?_
                      simp only [Act.put, List.setIfInBounds_toArray, List.set]
                      refine skipH (i := 8) (d := some 107) rfl rfl (by kernel_rfl) (by kernel_rfl) (by kernel_rfl) (fun _ _ _ h => h) (by rfl) (by assumption) ?_
                      simp only [Act.put, List.setIfInBounds_toArray, List.set]
                      refine skipH (i := 9) (d := some 108) rfl rfl (by kernel_rfl) (by kernel_rfl) (by kernel_rfl) (fun _ _ _ h => h) (by rfl) (by assumption) ?_
                      simp only [Act.put, List.setIfInBounds_toArray, List.set]
                      refine skipH (i := 10) (d := some 109) rfl rfl (by kernel_rfl) (by kernel_rfl) (by kernel_rfl) (fun _ _ _ h => h) (by rfl) (by assumption) ?_
                      simp only [Act.put, List.setIfInBounds_toArray, List.set]
                      refine skipH (i := 11) (d := some 110) rfl rfl (by kernel_rfl) (by kernel_rfl) (by kernel_rfl) (fun _ _ _ h => h) (by rfl) (by assumption) ?_
                      simp only [Act.put, List.setIfInBounds_toArray, List.set]
                      refine skipH (i := 12) (d := some 111) rfl rfl (by kernel_rfl) (by kernel_rfl) (by kernel_rfl) (fun _ _ _ h => h) (by rfl) (by assumption) ?_
                      simp only [Act.put, List.setIfInBounds_toArray, List.set]
                      refine skipH (i := 13) (d := some 112) rfl rfl (by kernel_rfl) (by kernel_rfl) (by kernel_rfl) (fun _ _ _ h => h) (by rfl) (by assumption) ?_
                      simp only [Act.put, List.setIfInBounds_toArray, List.set]
                      refine skipH (i := 14) (d := some 113) rfl rfl (by kernel_rfl) (by kernel_rfl) (by kernel_rfl) (fun _ _ _ h => h) (by rfl) (by assumption) ?_
                      simp only [Act.put, List.setIfInBounds_toArray, List.set]
                      refine takeH (i := 15) (d := some 114) (v := ?_) rfl rfl (by kernel_rfl) (by kernel_rfl) (by kernel_rfl) (fun _ _ _ h => h) (by rfl) ?_ (by assumption) ?_
                      rotate_left 1
                      · intro w hSw; (try dsimp only at hSw); go_simp; try with_reducible rfl
                      simp only [Act.put, List.setIfInBounds_toArray, List.set]
                      refine wpAnyH_done (by kernel_rfl) ?_ _
                      have x2 : w8.drew.cell? ⟨C2, 0, none⟩ = some (.pointer (some ⟨Bd, 0, none⟩)) := HRD8.out.x2
                      have d0 : w8.drew.cell? ⟨Bd, 0, none⟩ = some (.bool false) := HRD8.out.d0
                      have f0 : w8.drew.frozen? ⟨Bd, 0, none⟩ = false := Lib.frozen_of_heap (w := w8) HRD8.out.d 0
                      gi_wp2
                      rw [Exit.noGoto_normal]
                      go_end0
                      exact ⟨⟨_, rfl⟩, by rw [← HZ2.out]; exact hJ _ _ _ (HS8.out.setCell (.inr (.inl rfl)) _).drew HJ.out, by rw [← HZ2.out]; exact (HRD8.out.setBad hBd true).drew⟩
                    · have hnp : 0 < n2 := by omega
                      obtain ⟨n3, hn3⟩ : ∃ n3, n2 - 1 = n3 := ⟨_, rfl⟩
                      have hnp1 : n3 < X.length := by omega
                      have hw17 : IntKind.i64.wrap ((n2 : Int) - 1) = (n3 : Int) := by rw [IntKind.wrap_i64]; omega
                      obtain ⟨y, hy⟩ : ∃ y, X[n3]? = some y := ⟨X[n3]'hnp1, List.getElem?_eq_getElem _⟩
                      obtain ⟨a, c, hlv, hc, hcm, hXr⟩ := hS.x
                      rcases hXr with ⟨h, _⟩ | ⟨b, o, rfl, hltb, hcs⟩
                      · rw [h] at hy; simp at hy
                      have hy0 := hcs _ y hy
                      have HY0 := Lib.hid hy0
                      have HLV := Lib.hid hlv
                      have g0 : ((m : Int) == 0) = false := by simp; omega
                      have hdb0 : dashBad X m n2 = (y.toList == [43, 10]) := by
                        unfold dashBad
                        rw [hn3, hy]
                        simp [hm0]
                      have HDB := Lib.hid hdb0
                      have HM0 := Lib.hid hm0
                      clear hy0 hlv hcs hy hm0 hc hcm hdb0 hn3
                      gi_wp2_with fail
                      refine ⟨trivial, ?_⟩
                      refine (callsIn_wide.2 HNC1.out).mono ?_
                      rintro e8 w8 ⟨rfl, hb8⟩
                      have HRD8 := Lib.hid (HRD1.out.later hb8)
                      have HS8 := Lib.hid (HST1.out.trans (Steps.of_below hb8))
                      have HBX8 : Hid (w8.heap[N]? = some (.cells #[.int .i64 e0.fr, .int .i64 e0.tt, .string tc] 46 (0, 0))) := (hb8.block N (Array.getElem?_eq_some_iff.1 HBX1.out).1).trans HBX1.out
                      clear hb8
                      have y0 : w8.drew.cell? ⟨C1, 0, none⟩ = some (.pointer (some ⟨R, 0, none⟩)) := HRD8.out.x1
                      have y1 : w8.drew.cell? ⟨R, 0, none⟩ = some (.slice (some ⟨b, o, none⟩) X.length c) := by rw [← HLV.out]; exact HRD8.out.r0
                      have y2 : w8.drew.cell? ⟨R, 1, none⟩ = some (.int .i64 (n2 : Int)) := HRD8.out.r1
                      have y3 : w8.drew.cell? ⟨b, o + n3, none⟩ = some (.string y) := cell_later (below_drew HRD8.out.low) HY0.out
                      cases hyy : y.toList == [43, 10] with
                      | true =>
                        have hdb : dashBad X m n2 = true := HDB.out.trans hyy
                        have he : editF X n last = .halts n2 true := by
                          have := editF_bad (last := last) HEL.out HHD2.out HN2.out H42.out HDA.out (by rw [HTK.out]; exact hdb)
                          rw [HTK.out] at this
                          exact this
                        have HZ2 : Hid ((pre, n2, true) = Z) := by
                          have := HZZ.out
                          simp only [editsF, he, List.append_nil] at this
                          exact this
                        clear he
                        clear hdb
                        gi_wp2_with fail
                        refine wpIn_wide.2 ?_
                        refine wp_region_held_drew (S := fun w' : World => w'.cell? ⟨C1, 0, none⟩ = some (.pointer (some ⟨R, 0, none⟩)) ∧ w'.cell? ⟨R, 0, none⟩ = some (.slice (some ⟨b, o, none⟩) X.length c) ∧ w'.cell? ⟨R, 1, none⟩ = some (.int .i64 (n2 : Int)) ∧ w'.cell? ⟨b, o + n3, none⟩ = some (.string y)) (by kernel_rfl) ⟨y0, y1, y2, y3⟩ (fun hHeld => ?_)
                        refine takeH (i := 0) (d := some 99) (v := ?_) rfl rfl (by kernel_rfl) (by kernel_rfl) (by kernel_rfl) (fun _ _ _ h => h) (by rfl) ?_ (by assumption) ?_
                        rotate_left 1
                        · intro w hSw; (try dsimp only at hSw); go_simp; try with_reducible rfl
                        simp only [Act.put, List.setIfInBounds_toArray, List.set]
                        refine takeH (i := 1) (d := some 100) (v := ?_) rfl rfl (by kernel_rfl) (by kernel_rfl) (by kernel_rfl) (fun _ _ _ h => h) (by rfl) ?_ (by assumption) ?_
                        rotate_left 1
                        · intro w hSw; (try dsimp only at hSw); go_simp; try with_reducible rfl
                        simp only [Act.put, List.setIfInBounds_toArray, List.set]
                        refine takeH (i := 2) (d := some 101) (v := ?_) rfl rfl (by kernel_rfl) (by kernel_rfl) (by kernel_rfl) (fun _ _ _ h => h) (by rfl) ?_ (by assumption) ?_
                        rotate_left 1
                        · intro w hSw; (try dsimp only at hSw); go_simp; try with_reducible rfl
                        simp only [Act.put, List.setIfInBounds_toArray, List.set]
                        refine takeH (i := 3) (d := some 102) (v := ?_) rfl rfl (by kernel_rfl) (by kernel_rfl) (by kernel_rfl) (fun _ _ _ h => h) (by rfl) ?_ (by assumption) ?_
                        rotate_left 1
                        · intro w hSw; (try dsimp only at hSw); go_simp; try with_reducible rfl
                        simp only [Act.put, List.setIfInBounds_toArray, List.set]
                        refine takeH (i := 4) (d := some 103) (v := ?_) rfl rfl (by kernel_rfl) (by kernel_rfl) (by kernel_rfl) (fun _ _ _ h => h) (by rfl) ?_ (by assumption) ?_
                        rotate_left 1
                        · intro w hSw; (try dsimp only at hSw); go_simp; try with_reducible rfl
                        simp only [Act.put, List.setIfInBounds_toArray, List.set]
                        refine takeH (i := 5) (d := some 104) (v := ?_) rfl rfl (by kernel_rfl) (by kernel_rfl) (by kernel_rfl) (fun _ _ _ h => h) (by rfl) ?_ (by assumption) ?_
                        rotate_left 1
                        · intro w hSw; (try dsimp only at hSw); go_simp; try with_reducible rfl
                        simp only [Act.put, List.setIfInBounds_toArray, List.set]
                        refine takeH (i := 6) (d := some 105) (v := ?_) rfl rfl (by kernel_rfl) (by kernel_rfl) (by kernel_rfl) (fun _ _ _ h => h) (by rfl) ?_ (by assumption) ?_
                        rotate_left 1
                        · intro w hSw; (try dsimp only at hSw); go_simp; try with_reducible rfl
                        simp only [Act.put, List.setIfInBounds_toArray, List.set]
                        refine takeH (i := 7) (d := some 106) (v := ?_) rfl rfl (by kernel_rfl) (by kernel_rfl) (by kernel_rfl) (fun _ _ _ h => h) (by rfl) ?_ (by assumption) ?_
                        rotate_left 1
                        · intro w hSw; (try dsimp only at hSw); go_simp; try with_reducible rfl
                        simp only [Act.put, List.setIfInBounds_toArray, List.set]
                        refine takeH (i := 8) (d := some 107) (v := ?_) rfl rfl (by kernel_rfl) (by kernel_rfl) (by kernel_rfl) (fun _ _ _ h => h) (by rfl) ?_ (by assumption) ?_
                        rotate_left 1
                        · intro w hSw; (try dsimp only at hSw); go_simp; try with_reducible rfl
                        simp only [Act.put, List.setIfInBounds_toArray, List.set]
                        refine takeH (i := 9) (d := some 108) (v := ?_) rfl rfl (by kernel_rfl) (by kernel_rfl) (by kernel_rfl) (fun _ _ _ h => h) (by rfl) ?_ (by assumption) ?_
                        rotate_left 1
                        · intro w hSw; (try dsimp only at hSw); go_simp; try with_reducible rfl
                        simp only [Act.put, List.setIfInBounds_toArray, List.set]
                        refine takeH (i := 10) (d := some 109) (v := ?_) rfl rfl (by kernel_rfl) (by kernel_rfl) (by kernel_rfl) (fun _ _ _ h => h) (by rfl) ?_ (by assumption) ?_
                        rotate_left 1
                        · intro w hSw; (try dsimp only at hSw); go_simp; try with_reducible rfl
                        simp only [Act.put, List.setIfInBounds_toArray, List.set]
                        refine takeH (i := 11) (d := some 110) (v := ?_) rfl rfl (by kernel_rfl) (by kernel_rfl) (by kernel_rfl) (fun _ _ _ h => h) (by rfl) ?_ (by assumption) ?_
                        rotate_left 1
                        · intro w hSw; (try dsimp only at hSw); go_simp; try with_reducible rfl
                        simp only [Act.put, List.setIfInBounds_toArray, List.set]
                        refine takeH (i := 12) (d := some 111) (v := ?_) rfl rfl (by kernel_rfl) (by kernel_rfl) (by kernel_rfl) (fun _ _ _ h => h) (by rfl) ?_ (by assumption) ?_
                        rotate_left 1
                        · intro w hSw; (try dsimp only at hSw); go_simp; try with_reducible rfl
                        simp only [Act.put, List.setIfInBounds_toArray, List.set]
                        refine takeH (i := 13) (d := some 112) (v := ?_) rfl rfl (by kernel_rfl) (by kernel_rfl) (by kernel_rfl) (fun _ _ _ h => h) (by rfl) ?_ (by assumption) ?_
                        rotate_left 1
                        · intro w hSw; (try dsimp only at hSw); go_simp; try with_reducible rfl
                        simp only [Act.put, List.setIfInBounds_toArray, List.set]
                        refine takeH (i := 14) (d := some 113) (v := ?_) rfl rfl (by kernel_rfl) (by kernel_rfl) (by kernel_rfl) (fun _ _ _ h => h) (by rfl) ?_ (by assumption) ?_
                        rotate_left 1
                        · intro w hSw; (try dsimp only at hSw); go_simp; try with_reducible rfl
                        simp only [Act.put, List.setIfInBounds_toArray, List.set]
                        refine takeH (i := 15) (d := some 114) (v := ?_) rfl rfl (by kernel_rfl) (by kernel_rfl) (by kernel_rfl) (fun _ _ _ h => h) (by rfl) ?_ (by assumption) ?_
                        rotate_left 1
                        · intro w hSw; (try dsimp only at hSw); go_simp; try with_reducible rfl
                        simp only [Act.put, List.setIfInBounds_toArray, List.set]
                        refine wpAnyH_done (by kernel_rfl) ?_ _
                        have x2 : w8.drew.cell? ⟨C2, 0, none⟩ = some (.pointer (some ⟨Bd, 0, none⟩)) := HRD8.out.x2
                        have d0 : w8.drew.cell? ⟨Bd, 0, none⟩ = some (.bool false) := HRD8.out.d0
                        have f0 : w8.drew.frozen? ⟨Bd, 0, none⟩ = false := Lib.frozen_of_heap (w := w8) HRD8.out.d 0
                        gi_wp2
                        rw [Exit.noGoto_normal]
                        go_end0
                        exact ⟨⟨_, rfl⟩, by rw [← HZ2.out]; exact hJ _ _ _ (HS8.out.setCell (.inr (.inl rfl)) _).drew HJ.out, by rw [← HZ2.out]; exact (HRD8.out.setBad hBd true).drew⟩
                      | false =>
                        have hdb : dashBad X m n2 = false := HDB.out.trans hyy
                        gi_wp2_with fail
                        refine wpIn_wide.2 ?_
                        refine wp_region_held_drew (S := fun w' : World => w'.cell? ⟨C1, 0, none⟩ = some (.pointer (some ⟨R, 0, none⟩)) ∧ w'.cell? ⟨R, 0, none⟩ = some (.slice (some ⟨b, o, none⟩) X.length c) ∧ w'.cell? ⟨R, 1, none⟩ = some (.int .i64 (n2 : Int)) ∧ w'.cell? ⟨b, o + n3, none⟩ = some (.string y)) (by kernel_rfl) ⟨y0, y1, y2, y3⟩ (fun hHeld => ?_)
                        refine takeH (i := 0) (d := some 99) (v := ?_) rfl rfl (by kernel_rfl) (by kernel_rfl) (by kernel_rfl) (fun _ _ _ h => h) (by rfl) ?_ (by assumption) ?_
                        rotate_left 1
                        · intro w hSw; (try dsimp only at hSw); go_simp; try with_reducible rfl
                        simp only [Act.put, List.setIfInBounds_toArray, List.set]
                        refine takeH (i := 1) (d := some 100) (v := ?_) rfl rfl (by kernel_rfl) (by kernel_rfl) (by kernel_rfl) (fun _ _ _ h => h) (by rfl) ?_ (by assumption) ?_
                        rotate_left 1
                        · intro w hSw; (try dsimp only at hSw); go_simp; try with_reducible rfl
                        simp only [Act.put, List.setIfInBounds_toArray, List.set]
                        refine takeH (i := 2) (d := some 101) (v := ?_) rfl rfl (by kernel_rfl) (by kernel_rfl) (by kernel_rfl) (fun _ _ _ h => h) (by rfl) ?_ (by assumption) ?_
                        rotate_left 1
                        · intro w hSw; (try dsimp only at hSw); go_simp; try with_reducible rfl
                        simp only [Act.put, List.setIfInBounds_toArray, List.set]
                        refine takeH (i := 3) (d := some 102) (v := ?_) rfl rfl (by kernel_rfl) (by kernel_rfl) (by kernel_rfl) (fun _ _ _ h => h) (by rfl) ?_ (by assumption) ?_
                        rotate_left 1
                        · intro w hSw; (try dsimp only at hSw); go_simp; try with_reducible rfl
                        simp only [Act.put, List.setIfInBounds_toArray, List.set]
                        refine takeH (i := 4) (d := some 103) (v := ?_) rfl rfl (by kernel_rfl) (by kernel_rfl) (by kernel_rfl) (fun _ _ _ h => h) (by rfl) ?_ (by assumption) ?_
                        rotate_left 1
                        · intro w hSw; (try dsimp only at hSw); go_simp; try with_reducible rfl
                        simp only [Act.put, List.setIfInBounds_toArray, List.set]
                        refine takeH (i := 5) (d := some 104) (v := ?_) rfl rfl (by kernel_rfl) (by kernel_rfl) (by kernel_rfl) (fun _ _ _ h => h) (by rfl) ?_ (by assumption) ?_
                        rotate_left 1
                        · intro w hSw; (try dsimp only at hSw); go_simp; try with_reducible rfl
                        simp only [Act.put, List.setIfInBounds_toArray, List.set]
                        refine takeH (i := 6) (d := some 105) (v := ?_) rfl rfl (by kernel_rfl) (by kernel_rfl) (by kernel_rfl) (fun _ _ _ h => h) (by rfl) ?_ (by assumption) ?_
                        rotate_left 1
                        · intro w hSw; (try dsimp only at hSw); go_simp; try with_reducible rfl
                        simp only [Act.put, List.setIfInBounds_toArray, List.set]
                        refine takeH (i := 7) (d := some 106) (v := ?_) rfl rfl (by kernel_rfl) (by kernel_rfl) (by kernel_rfl) (fun _ _ _ h => h) (by rfl) ?_ (by assumption) ?_
                        rotate_left 1
                        · intro w hSw; (try dsimp only at hSw); go_simp; try with_reducible rfl
                        simp only [Act.put, List.setIfInBounds_toArray, List.set]
                        refine takeH (i := 8) (d := some 107) (v := ?_) rfl rfl (by kernel_rfl) (by kernel_rfl) (by kernel_rfl) (fun _ _ _ h => h) (by rfl) ?_ (by assumption) ?_
                        rotate_left 1
                        · intro w hSw; (try dsimp only at hSw); go_simp; try with_reducible rfl
                        simp only [Act.put, List.setIfInBounds_toArray, List.set]
                        refine takeH (i := 9) (d := some 108) (v := ?_) rfl rfl (by kernel_rfl) (by kernel_rfl) (by kernel_rfl) (fun _ _ _ h => h) (by rfl) ?_ (by assumption) ?_
                        rotate_left 1
                        · intro w hSw; (try dsimp only at hSw); go_simp; try with_reducible rfl
                        simp only [Act.put, List.setIfInBounds_toArray, List.set]
                        refine takeH (i := 10) (d := some 109) (v := ?_) rfl rfl (by kernel_rfl) (by kernel_rfl) (by kernel_rfl) (fun _ _ _ h => h) (by rfl) ?_ (by assumption) ?_
                        rotate_left 1
                        · intro w hSw; (try dsimp only at hSw); go_simp; try with_reducible rfl
                        simp only [Act.put, List.setIfInBounds_toArray, List.set]
                        refine takeH (i := 11) (d := some 110) (v := ?_) rfl rfl (by kernel_rfl) (by kernel_rfl) (by kernel_rfl) (fun _ _ _ h => h) (by rfl) ?_ (by assumption) ?_
                        rotate_left 1
                        · intro w hSw; (try dsimp only at hSw); go_simp; try with_reducible rfl
                        simp only [Act.put, List.setIfInBounds_toArray, List.set]
                        refine takeH (i := 12) (d := some 111) (v := ?_) rfl rfl (by kernel_rfl) (by kernel_rfl) (by kernel_rfl) (fun _ _ _ h => h) (by rfl) ?_ (by assumption) ?_
                        rotate_left 1
                        · intro w hSw; (try dsimp only at hSw); go_simp; try with_reducible rfl
                        simp only [Act.put, List.setIfInBounds_toArray, List.set]
                        refine takeH (i := 13) (d := some 112) (v := ?_) rfl rfl (by kernel_rfl) (by kernel_rfl) (by kernel_rfl) (fun _ _ _ h => h) (by rfl) ?_ (by assumption) ?_
                        rotate_left 1
                        · intro w hSw; (try dsimp only at hSw); go_simp; try with_reducible rfl
                        simp only [Act.put, List.setIfInBounds_toArray, List.set]
                        refine takeH (i := 14) (d := some 113) (v := ?_) rfl rfl (by kernel_rfl) (by kernel_rfl) (by kernel_rfl) (fun _ _ _ h => h) (by rfl) ?_ (by assumption) ?_
                        rotate_left 1
                        · intro w hSw; (try dsimp only at hSw); go_simp; try with_reducible rfl
                        simp only [Act.put, List.setIfInBounds_toArray, List.set]
                        refine takeH (i := 15) (d := some 114) (v := ?_) rfl rfl (by kernel_rfl) (by kernel_rfl) (by kernel_rfl) (fun _ _ _ h => h) (by rfl) ?_ (by assumption) ?_
                        rotate_left 1
                        · intro w hSw; (try dsimp only at hSw); go_simp; try with_reducible rfl
                        simp only [Act.put, List.setIfInBounds_toArray, List.set]
                        refine wpAnyH_done (by kernel_rfl) ?_ _
                        clear y0 y1 y2 y3
                        have HDB2 := Lib.hid hdb
                        clear hdb
                        have z2 : w8.drew.cell? ⟨N, 2, none⟩ = some (.string tc) := by show w8.cell? _ = _; rw [Lib.cell_of_heap HBX8.out]; rfl
                        have f2 : w8.drew.frozen? ⟨N, 2, none⟩ = false := Lib.frozen_of_heap (w := w8) HBX8.out 2
                        obtain ⟨tx, htx⟩ : ∃ tx : ByteArray, (⟨(Lib.trimSuffix tc.data.toList [10]).toArray⟩ : ByteArray) = tx := ⟨_, rfl⟩
                        have hts := fun w => Tryd.strings_TrimSuffix tc ⟨#[10]⟩ w (by omega)
                        rw [show (⟨#[10]⟩ : ByteArray).data.toList = [10] from rfl, htx] at hts
                        have HTS := Lib.hid hts
                        have HTX := Lib.hid htx
                        clear hts htx
                        have hnn := HRD8.out.lt
                        have hnn1 := HRD.out.lt
                        have HRD9 := Lib.hid ((HRD8.out.box (N := N) (o := 2) (by omega) (by omega) (by omega) (by omega) (by omega) (.string tx)))
                        have HS9 := Lib.hid (HS8.out.setCell (b := N) (o := 2) (.inr (.inr hNw)) (.string tx))
                        have HBX9 : Hid ((w8.setCell ⟨N, 2, none⟩ (.string tx)).heap[N]? = some (.cells #[.int .i64 e0.fr, .int .i64 e0.tt, .string tx] 46 (0, 0))) := by
                          have h1 := HBX8.out
                          show (w8.setCell ⟨N, 2, none⟩ (.string tx)).heap[N]? = _
                          simp [World.setCell, Array.getElem?_modify, h1]
                        have HRD10 : Hid (Rdr W0 C1 C2 R Bd lv (n2 + 1) false (((w8.setCell ⟨N, 2, none⟩ (.string tx)).setCell ⟨R, 1, none⟩ (.int .i64 ((n2 : Int) + 1))).drew)) := by
                          have := HRD9.out.setN hR (n2 + 1)
                          rw [show ((n2 + 1 : Nat) : Int) = (n2 : Int) + 1 by omega] at this
                          exact this.drew
                        have HS10 : Hid (Steps R Bd wA (((w8.setCell ⟨N, 2, none⟩ (.string tx)).setCell ⟨R, 1, none⟩ (.int .i64 ((n2 : Int) + 1))).drew)) := (HS9.out.setCell (.inl rfl) _).drew
                        have HBX10 : Hid ((((w8.setCell ⟨N, 2, none⟩ (.string tx)).setCell ⟨R, 1, none⟩ (.int .i64 ((n2 : Int) + 1))).drew).heap[N]? = some (.cells #[.int .i64 e0.fr, .int .i64 e0.tt, .string tx] 46 (0, 0))) :=
                          (Below.heap_setCell _ _ _ _ (by show N ≠ R; omega)).trans HBX9.out
                        have x1 : ((w8.setCell ⟨N, 2, none⟩ (.string tx)).drew).cell? ⟨C1, 0, none⟩ = some (.pointer (some ⟨R, 0, none⟩)) := HRD9.out.x1
                        have r1 : ((w8.setCell ⟨N, 2, none⟩ (.string tx)).drew).cell? ⟨R, 1, none⟩ = some (.int .i64 (n2 : Int)) := HRD9.out.r1
                        have f1 : ((w8.setCell ⟨N, 2, none⟩ (.string tx)).drew).frozen? ⟨R, 1, none⟩ = false := Lib.frozen_of_heap (w := w8.setCell ⟨N, 2, none⟩ (.string tx)) HRD9.out.r 1
                        clear hnn hnn1 hw17
                        have hg : editF X n last = .gives ⟨e0.fr, e0.tt, tx⟩ (n2 + 1) := (by
                            have := editF_dash (last := last) HEL.out HHD2.out HN2.out H42.out HDA.out (by rw [HTK.out]; exact HDB2.out)
                            rw [HTK.out] at this
                            dsimp only at this
                            rw [HTX.out] at this
                            exact this)
                        have HZ3 : Hid ((pre ++ (⟨e0.fr, e0.tt, tx⟩ : Ed) :: (editsF X g (n2 + 1) e0.tt).1, (editsF X g (n2 + 1) e0.tt).2) = Z) := by
                          have := HZZ.out
                          simp only [editsF, hg] at this
                          exact this
                        have hpre : (pre ++ [(⟨e0.fr, e0.tt, tx⟩ : Ed)]) <+: Z.1 := by
                          rw [← HZ3.out]
                          exact ⟨(editsF X g (n2 + 1) e0.tt).1, by simp⟩
                        obtain ⟨fn, tmps, assign, body, hy, hRnd⟩ := hY pre ⟨e0.fr, e0.tt, tx⟩ wA (((w8.setCell ⟨N, 2, none⟩ (.string tx)).setCell ⟨R, 1, none⟩ (.int .i64 ((n2 : Int) + 1))).drew) HJ.out HS10.out hpre
                        simp only [edV] at hy
                        have c0 : ((((w8.setCell ⟨N, 2, none⟩ (.string tx)).setCell ⟨R, 1, none⟩ (.int .i64 ((n2 : Int) + 1))).drew)).cell? ⟨N, 0, none⟩ = some (.int .i64 e0.fr) := by rw [Lib.cell_of_heap HBX10.out]; rfl
                        have c1 : ((((w8.setCell ⟨N, 2, none⟩ (.string tx)).setCell ⟨R, 1, none⟩ (.int .i64 ((n2 : Int) + 1))).drew)).cell? ⟨N, 1, none⟩ = some (.int .i64 e0.tt) := by rw [Lib.cell_of_heap HBX10.out]; rfl
                        have c2 : ((((w8.setCell ⟨N, 2, none⟩ (.string tx)).setCell ⟨R, 1, none⟩ (.int .i64 ((n2 : Int) + 1))).drew)).cell? ⟨N, 2, none⟩ = some (.string tx) := by rw [Lib.cell_of_heap HBX10.out]; rfl
                        clear hg hpre
                        gi_wp2_with fail
                        refine ⟨trivial, ?_⟩
                        refine (callsIn_wide.2 (HTS.out _)).mono ?_
                        rintro e9 w9 ⟨rfl, rfl⟩
                        gi_wp2_with fail
                        refine hRnd.mono ?_
                        rintro e W3 ⟨rfl, hJ3, hk3⟩
                        have HRD3 := Lib.hid (HRD10.out.keep hk3.1 hR hBd hlim)
                        have HBX3 : Hid (W3.heap[N]? = some (.cells #[.int .i64 e0.fr, .int .i64 e0.tt, .string tx] 46 (0, 0))) := (hk3.2 N hNw (Array.getElem?_eq_some_iff.1 HBX10.out).1).trans HBX10.out
                        have c3 : W3.cell? ⟨N, 1, none⟩ = some (.int .i64 e0.tt) := by rw [Lib.cell_of_heap HBX3.out]; rfl
                        have HJ3 := Lib.hid hJ3
                        clear hJ3 hk3 hy hRnd c0 c1 c2
                        gi_wp2
                        go_roundw
                        case rel =>
                          exact ⟨pre ++ [⟨e0.fr, e0.tt, tx⟩], n2 + 1, g, e0.tt, by omega, by omega, rfl, by rw [← HZ3.out]; simp, HJ3.out, HRD3.out⟩
                        case measure =>
                          rw [HRD3.out.nOf, HRD.out.nOf]
                          omega
      · have hp' : Lib.hasPrefix s.data.toList [64, 32] = false := by simpa using hp
        rw [hp'] at hpc
        have he : editF X n last = .halts n false := editF_none (by rw [HNW.out]; exact hp')
        have HZ2 : Hid ((pre, n, false) = Z) := by
          have := HZZ.out
          simp only [editsF, he, List.append_nil] at this
          exact this
        have HPC := Lib.hid hpc
        clear he hpc hp hp'
        gi_wp2_with fail
        refine ⟨trivial, ?_⟩
        refine (callsIn_wide.2 HNC.out).mono ?_
        rintro e w1 ⟨rfl, hb⟩
        have HB := Lib.hid hb
        clear hb
        gi_wp2_with fail
        refine ⟨trivial, ?_⟩
        refine (callsIn_wide.2 (HPC.out _)).mono ?_
        rintro e w2 ⟨rfl, rfl⟩
        gi_wp2
        rw [Exit.noGoto_normal]
        go_end0
        exact ⟨⟨_, rfl⟩, by rw [← HZ2.out]; exact hJ _ _ _ (Steps.of_below HB.out) HJ.out, by rw [← HZ2.out]; exact HRD.out.later HB.out⟩

end Go.Proofs.YtbodemkmjemdjaaDoor
