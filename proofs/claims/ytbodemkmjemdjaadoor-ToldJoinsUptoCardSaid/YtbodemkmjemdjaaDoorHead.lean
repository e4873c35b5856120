/-
  What head answers: what a line says of an edit.
-/
import Derived.Test.YtbodemkmjemdjaaDoorNumber
namespace Go.Proofs.YtbodemkmjemdjaaDoor
open Go.RowKit

def blank : ByteArray := ⟨#[32]⟩
def wordsOf (s : ByteArray) : List ByteArray := Lib.splitB blank 0 (Lib.countB s blank) s
theorem wordsOf_length (s : ByteArray) : (wordsOf s).length = Lib.countB s blank + 1 := Lib.splitB_all blank (by decide) 0 _ s rfl
def headF (s : ByteArray) : Option (Ed × Nat) := match wordsOf s with
  | [a, b, c] => match numF a 1, numF b 0, numF c 0 with
    | some x, some y, some z => if z ≤ 65536 then some (⟨x - 1, x - 1 + y, ⟨#[]⟩⟩, z.toNat) else none
    | _, _, _ => none
  | _ => none

theorem splitB_size (sep : ByteArray) (save : Nat) : ∀ (k : Nat) (s : ByteArray), ∀ x ∈ Lib.splitB sep save k s, x.size ≤ s.size
  | 0, s, x, h => by
    simp only [Lib.splitB, List.mem_singleton] at h
    subst h
    exact Nat.le_refl _
  | k + 1, s, x, h => by
    unfold Lib.splitB at h
    split at h
    · simp only [List.mem_singleton] at h
      subst h
      exact Nat.le_refl _
    · rcases List.mem_cons.1 h with rfl | h
      · rw [ByteArray.size_extract]; omega
      · have := splitB_size sep save k _ x h
        rw [ByteArray.size_extract] at this
        omega

/-- An edit's box, laid anew. -/
def lay3 (W : World) (N : Nat) (x y z : Value) : World := ((W.setCell ⟨N, 0, none⟩ x).setCell ⟨N, 1, none⟩ y).setCell ⟨N, 2, none⟩ z
theorem lay3_at {W : World} {N : Nat} {a b c : Value} (h : W.heap[N]? = some (.cells #[a, b, c] 46 (0, 0))) (x y z : Value) : (lay3 W N x y z).heap[N]? = some (.cells #[x, y, z] 46 (0, 0)) := by
  unfold lay3
  simp [World.setCell, Array.getElem?_modify, h]
theorem lay3_below {W w : World} {n N : Nat} (h : Below n w W) (hn : n ≤ N) (x y z : Value) : Below n w (lay3 W N x y z) := by
  unfold lay3
  exact ((h.setCell (p := ⟨N, 0, none⟩) hn _).setCell (p := ⟨N, 1, none⟩) hn _).setCell (p := ⟨N, 2, none⟩) hn _

theorem numF_bounds {s : ByteArray} {least v : Int} (h : numF s least = some v) : least ≤ v ∧ v ≤ 65537 := by
  unfold numF at h
  split at h
  · split at h
    · rename_i h2
      simp only [Option.some.injEq] at h
      subst h
      unfold numOk at h2
      simp only [Bool.and_eq_true, decide_eq_true_eq] at h2
      exact h2.1
    · cases h
  · cases h

set_option maxHeartbeats 4000000 in
set_option maxRecDepth 100000 in
theorem head_any (s : ByteArray) (ml : Int) (w : World) (hs : s.size ≤ 9000000) (hm : w.cell? ⟨1, 0, none⟩ = some (.int .i64 ml)) (hp : Pow10 w) (he : Errs w) :
    Calls Tryd.prog 45 #[.string s] w fun e w' => (∃ f t many, e = .returned (.tuple #[.agg #[.int .i64 f, .int .i64 t, .string ⟨#[]⟩], .int .i64 many, .bool (headF s).isSome]) ∧ ∀ ed n, headF s = some (ed, n) → f = ed.fr ∧ t = ed.tt ∧ many = (n : Int)) ∧ Below w.heap.size w w' := by
  obtain ⟨w0, hw0⟩ : ∃ w0, w.alloc (.cells #[.int .i64 0, .int .i64 0, .string ⟨#[]⟩] 46) = w0 := ⟨_, rfl⟩
  have hb0 : Below w.heap.size w w0 := by rw [← hw0]; exact (Below.refl _ w).alloc (Nat.le_refl _) _
  have hsp := Tryd.strings_Split s blank ml w0 (by omega) (cell_later hb0 hm) (by decide)
  obtain ⟨L, hL⟩ : ∃ L, wordsOf s = L := ⟨_, rfl⟩
  have hLl := wordsOf_length s
  rw [hL] at hLl
  rw [← hLl, show Lib.splitB blank 0 (Lib.countB s blank) s = L from hL] at hsp
  obtain ⟨N, hN⟩ : ∃ N, w.heap.size = N := ⟨_, rfl⟩
  have hbx : w0.heap[N]? = some (.cells #[.int .i64 0, .int .i64 0, .string ⟨#[]⟩] 46 (0, 0)) := by rw [← hw0, ← hN]; exact World.alloc_heap_new w _
  have hN0 : N < w0.heap.size := (Array.getElem?_eq_some_iff.1 hbx).1
  obtain ⟨w1, hw1⟩ : ∃ w1, w0.alloc (.cells (L.map Value.string).toArray 9) = w1 := ⟨_, rfl⟩
  rw [hw1] at hsp
  have hb1 : Below w0.heap.size w0 w1 := by rw [← hw1]; exact (Below.refl _ w0).alloc (Nat.le_refl _) _
  have hcl : ∀ j x, L[j]? = some x → w1.cell? ⟨w0.heap.size, j, none⟩ = some (.string x) := fun j x hx => by
    rw [← hw1]
    exact box_cell _ _ _ _ _ (by simp [hx])
  have HW0 := Lib.hid hw0
  have HSP := Lib.hid hsp
  have HB1 := Lib.hid (hb0.trans (hb1.mono hb0.size))
  have HBX := Lib.hid ((hb1.block N hN0).trans hbx)
  have HCL := Lib.hid hcl
  have HPW := Lib.hid (pow10_below hp (hb0.trans (hb1.mono hb0.size)))
  have HER := Lib.hid (he.later (hb0.trans (hb1.mono hb0.size)))
  have hwb : ∀ x ∈ L, x.size ≤ 9000000 := fun x hx => by
    rw [← hL] at hx
    have := splitB_size _ _ _ _ x hx
    omega
  have HWB := Lib.hid hwb
  clear hw0 hsp hb0 hb1 hbx hcl hw1 hwb hp he hm
  by_cases h3 : L.length = 3
  · obtain ⟨a, b, c, rfl⟩ : ∃ a b c, L = [a, b, c] := by
      match L, h3 with
      | [a, b, c], _ => exact ⟨a, b, c, rfl⟩
    have hna := fun W (hW : Below w1.heap.size w1 W) => number_any a 1 W (HWB.out a (by simp)) (by omega) (pow10_below HPW.out hW) (HER.out.later hW)
    have hnb := fun W (hW : Below w1.heap.size w1 W) => number_any b 0 W (HWB.out b (by simp)) (by omega) (pow10_below HPW.out hW) (HER.out.later hW)
    have hnc := fun W (hW : Below w1.heap.size w1 W) => number_any c 0 W (HWB.out c (by simp)) (by omega) (pow10_below HPW.out hW) (HER.out.later hW)
    have s0 := HCL.out 0 a rfl
    have s1 := HCL.out 1 b rfl
    have s2 := HCL.out 2 c rfl
    have H3 := Lib.hid h3
    have hhd : headF s = (match numF a 1, numF b 0, numF c 0 with
        | some x, some y, some z => if z ≤ 65536 then some (⟨x - 1, x - 1 + y, ⟨#[]⟩⟩, z.toNat) else none
        | _, _, _ => none) := by unfold headF; rw [hL]
    clear hL hLl h3
    cases ha : numF a 1 with
    | none =>
      rw [ha] at hna hhd
      have HF := Lib.hid (show headF s = none from hhd)
      have HNA := Lib.hid hna
      have HNB := Lib.hid hnb
      have HNC := Lib.hid hnc
      clear hna hnb hnc hhd ha
      go_enter Tryd.func45, Tryd.ntmps45
      go_wp2_with fail
      rw [HW0.out]
      refine HSP.out.mono ?_
      rintro e w2 ⟨rfl, rfl⟩
      rw [H3.out]
      go_wp2_with fail
      refine (HNA.out _ (Below.refl _ _)).mono ?_
      rintro e3 w3 ⟨⟨z0, rfl, hz0⟩, hb3⟩
      clear hz0
      have t1 := cell_later hb3 s1
      go_wp2_with fail
      refine (HNB.out _ hb3).mono ?_
      rintro e4 w4 ⟨⟨z1, rfl, hz1⟩, hb4⟩
      clear hz1
      have hb24 := hb3.trans (hb4.mono hb3.size)
      have t2 := cell_later hb24 s2
      go_wp2_with fail
      refine (HNC.out _ hb24).mono ?_
      rintro e5 w5 ⟨⟨z2, rfl, hz2⟩, hb5⟩
      clear hz2
      have hb25 := hb24.trans (hb5.mono hb24.size)
      have hN2 : N < w2.heap.size := (Array.getElem?_eq_some_iff.1 HBX.out).1
      have HBX5 := Lib.hid ((hb25.block N hN2).trans HBX.out)
      have x0 : w5.cell? ⟨N, 0, none⟩ = some (.int .i64 0) := by rw [Lib.cell_of_heap HBX5.out]; rfl
      have x1 : w5.cell? ⟨N, 1, none⟩ = some (.int .i64 0) := by rw [Lib.cell_of_heap HBX5.out]; rfl
      have x2 : w5.cell? ⟨N, 2, none⟩ = some (.string ⟨#[]⟩) := by rw [Lib.cell_of_heap HBX5.out]; rfl
      have y0 := Lib.frozen_of_heap HBX5.out 0
      have y1 := Lib.frozen_of_heap HBX5.out 1
      have y2 := Lib.frozen_of_heap HBX5.out 2
      obtain ⟨f0, hf0⟩ : ∃ f0, IntKind.i64.wrap (z0 - 1) = f0 := ⟨_, rfl⟩
      obtain ⟨f1, hf1⟩ : ∃ f1, IntKind.i64.wrap (f0 + z1) = f1 := ⟨_, rfl⟩
      have HB5 := Lib.hid (HB1.out.trans (hb25.mono HB1.out.size))

      clear hb3 hb24 hb4 hb5 hb25 t1 t2
      go_wp2
      have hat := lay3_at HBX5.out (.int .i64 f0) (.int .i64 f1) (.string ⟨#[]⟩)
      have q0 : (lay3 w5 N (.int .i64 f0) (.int .i64 f1) (.string ⟨#[]⟩)).cell? ⟨N, 0, none⟩ = some (.int .i64 f0) := by rw [Lib.cell_of_heap hat]; rfl
      have q1 : (lay3 w5 N (.int .i64 f0) (.int .i64 f1) (.string ⟨#[]⟩)).cell? ⟨N, 1, none⟩ = some (.int .i64 f1) := by rw [Lib.cell_of_heap hat]; rfl
      have q2 : (lay3 w5 N (.int .i64 f0) (.int .i64 f1) (.string ⟨#[]⟩)).cell? ⟨N, 2, none⟩ = some (.string ⟨#[]⟩) := by rw [Lib.cell_of_heap hat]; rfl
      change bodyPost _ _ _ _ _ (lay3 w5 N (.int .i64 f0) (.int .i64 f1) (.string ⟨#[]⟩))
      refine bodyPost_ret (v := .tuple #[.agg #[.int .i64 f0, .int .i64 f1, .string ⟨#[]⟩], .int .i64 z2, .bool false]) (by simp [results, Tryd.results45, go_sem, q0, q1, q2]) rfl ?_
      exact ⟨⟨f0, f1, z2, by rw [HF.out]; rfl, fun ed k h => by rw [HF.out] at h; cases h⟩, lay3_below HB5.out (by omega) _ _ _⟩
    | some x =>
      rw [ha] at hna hhd
      have bx := numF_bounds ha
      cases hb : numF b 0 with
      | none =>
        rw [hb] at hnb hhd
        have HF := Lib.hid (show headF s = none from hhd)
        have HNA := Lib.hid hna
        have HNB := Lib.hid hnb
        have HNC := Lib.hid hnc
        clear hna hnb hnc hhd ha hb
        go_enter Tryd.func45, Tryd.ntmps45
        go_wp2_with fail
        rw [HW0.out]
        refine HSP.out.mono ?_
        rintro e w2 ⟨rfl, rfl⟩
        rw [H3.out]
        go_wp2_with fail
        refine (HNA.out _ (Below.refl _ _)).mono ?_
        rintro e3 w3 ⟨⟨z0, rfl, hz0⟩, hb3⟩
        obtain rfl := hz0 _ rfl
        have t1 := cell_later hb3 s1
        go_wp2_with fail
        refine (HNB.out _ hb3).mono ?_
        rintro e4 w4 ⟨⟨z1, rfl, hz1⟩, hb4⟩
        clear hz1
        have hb24 := hb3.trans (hb4.mono hb3.size)
        have t2 := cell_later hb24 s2
        go_wp2_with fail
        refine (HNC.out _ hb24).mono ?_
        rintro e5 w5 ⟨⟨z2, rfl, hz2⟩, hb5⟩
        clear hz2
        have hb25 := hb24.trans (hb5.mono hb24.size)
        have hN2 : N < w2.heap.size := (Array.getElem?_eq_some_iff.1 HBX.out).1
        have HBX5 := Lib.hid ((hb25.block N hN2).trans HBX.out)
        have x0 : w5.cell? ⟨N, 0, none⟩ = some (.int .i64 0) := by rw [Lib.cell_of_heap HBX5.out]; rfl
        have x1 : w5.cell? ⟨N, 1, none⟩ = some (.int .i64 0) := by rw [Lib.cell_of_heap HBX5.out]; rfl
        have x2 : w5.cell? ⟨N, 2, none⟩ = some (.string ⟨#[]⟩) := by rw [Lib.cell_of_heap HBX5.out]; rfl
        have y0 := Lib.frozen_of_heap HBX5.out 0
        have y1 := Lib.frozen_of_heap HBX5.out 1
        have y2 := Lib.frozen_of_heap HBX5.out 2
        obtain ⟨f0, hf0⟩ : ∃ f0, IntKind.i64.wrap (z0 - 1) = f0 := ⟨_, rfl⟩
        obtain ⟨f1, hf1⟩ : ∃ f1, IntKind.i64.wrap (f0 + z1) = f1 := ⟨_, rfl⟩
        have HB5 := Lib.hid (HB1.out.trans (hb25.mono HB1.out.size))

        clear hb3 hb24 hb4 hb5 hb25 t1 t2
        go_wp2
        have hat := lay3_at HBX5.out (.int .i64 f0) (.int .i64 f1) (.string ⟨#[]⟩)
        have q0 : (lay3 w5 N (.int .i64 f0) (.int .i64 f1) (.string ⟨#[]⟩)).cell? ⟨N, 0, none⟩ = some (.int .i64 f0) := by rw [Lib.cell_of_heap hat]; rfl
        have q1 : (lay3 w5 N (.int .i64 f0) (.int .i64 f1) (.string ⟨#[]⟩)).cell? ⟨N, 1, none⟩ = some (.int .i64 f1) := by rw [Lib.cell_of_heap hat]; rfl
        have q2 : (lay3 w5 N (.int .i64 f0) (.int .i64 f1) (.string ⟨#[]⟩)).cell? ⟨N, 2, none⟩ = some (.string ⟨#[]⟩) := by rw [Lib.cell_of_heap hat]; rfl
        change bodyPost _ _ _ _ _ (lay3 w5 N (.int .i64 f0) (.int .i64 f1) (.string ⟨#[]⟩))
        refine bodyPost_ret (v := .tuple #[.agg #[.int .i64 f0, .int .i64 f1, .string ⟨#[]⟩], .int .i64 z2, .bool false]) (by simp [results, Tryd.results45, go_sem, q0, q1, q2]) rfl ?_
        exact ⟨⟨f0, f1, z2, by rw [HF.out]; rfl, fun ed k h => by rw [HF.out] at h; cases h⟩, lay3_below HB5.out (by omega) _ _ _⟩
      | some y =>
        rw [hb] at hnb hhd
        have bY := numF_bounds hb
        cases hc : numF c 0 with
        | none =>
          rw [hc] at hnc hhd
          have HF := Lib.hid (show headF s = none from hhd)
          have HNA := Lib.hid hna
          have HNB := Lib.hid hnb
          have HNC := Lib.hid hnc
          clear hna hnb hnc hhd ha hb hc
          go_enter Tryd.func45, Tryd.ntmps45
          go_wp2_with fail
          rw [HW0.out]
          refine HSP.out.mono ?_
          rintro e w2 ⟨rfl, rfl⟩
          rw [H3.out]
          go_wp2_with fail
          refine (HNA.out _ (Below.refl _ _)).mono ?_
          rintro e3 w3 ⟨⟨z0, rfl, hz0⟩, hb3⟩
          obtain rfl := hz0 _ rfl
          have t1 := cell_later hb3 s1
          go_wp2_with fail
          refine (HNB.out _ hb3).mono ?_
          rintro e4 w4 ⟨⟨z1, rfl, hz1⟩, hb4⟩
          obtain rfl := hz1 _ rfl
          have hb24 := hb3.trans (hb4.mono hb3.size)
          have t2 := cell_later hb24 s2
          go_wp2_with fail
          refine (HNC.out _ hb24).mono ?_
          rintro e5 w5 ⟨⟨z2, rfl, hz2⟩, hb5⟩
          clear hz2
          have hb25 := hb24.trans (hb5.mono hb24.size)
          have hN2 : N < w2.heap.size := (Array.getElem?_eq_some_iff.1 HBX.out).1
          have HBX5 := Lib.hid ((hb25.block N hN2).trans HBX.out)
          have x0 : w5.cell? ⟨N, 0, none⟩ = some (.int .i64 0) := by rw [Lib.cell_of_heap HBX5.out]; rfl
          have x1 : w5.cell? ⟨N, 1, none⟩ = some (.int .i64 0) := by rw [Lib.cell_of_heap HBX5.out]; rfl
          have x2 : w5.cell? ⟨N, 2, none⟩ = some (.string ⟨#[]⟩) := by rw [Lib.cell_of_heap HBX5.out]; rfl
          have y0 := Lib.frozen_of_heap HBX5.out 0
          have y1 := Lib.frozen_of_heap HBX5.out 1
          have y2 := Lib.frozen_of_heap HBX5.out 2
          obtain ⟨f0, hf0⟩ : ∃ f0, IntKind.i64.wrap (z0 - 1) = f0 := ⟨_, rfl⟩
          obtain ⟨f1, hf1⟩ : ∃ f1, IntKind.i64.wrap (f0 + z1) = f1 := ⟨_, rfl⟩
          have HB5 := Lib.hid (HB1.out.trans (hb25.mono HB1.out.size))

          clear hb3 hb24 hb4 hb5 hb25 t1 t2
          go_wp2
          have hat := lay3_at HBX5.out (.int .i64 f0) (.int .i64 f1) (.string ⟨#[]⟩)
          have q0 : (lay3 w5 N (.int .i64 f0) (.int .i64 f1) (.string ⟨#[]⟩)).cell? ⟨N, 0, none⟩ = some (.int .i64 f0) := by rw [Lib.cell_of_heap hat]; rfl
          have q1 : (lay3 w5 N (.int .i64 f0) (.int .i64 f1) (.string ⟨#[]⟩)).cell? ⟨N, 1, none⟩ = some (.int .i64 f1) := by rw [Lib.cell_of_heap hat]; rfl
          have q2 : (lay3 w5 N (.int .i64 f0) (.int .i64 f1) (.string ⟨#[]⟩)).cell? ⟨N, 2, none⟩ = some (.string ⟨#[]⟩) := by rw [Lib.cell_of_heap hat]; rfl
          change bodyPost _ _ _ _ _ (lay3 w5 N (.int .i64 f0) (.int .i64 f1) (.string ⟨#[]⟩))
          refine bodyPost_ret (v := .tuple #[.agg #[.int .i64 f0, .int .i64 f1, .string ⟨#[]⟩], .int .i64 z2, .bool false]) (by simp [results, Tryd.results45, go_sem, q0, q1, q2]) rfl ?_
          exact ⟨⟨f0, f1, z2, by rw [HF.out]; rfl, fun ed k h => by rw [HF.out] at h; cases h⟩, lay3_below HB5.out (by omega) _ _ _⟩
        | some z =>
          rw [hc] at hnc hhd
          have bz := numF_bounds hc
          have HNA := Lib.hid hna
          have HNB := Lib.hid hnb
          have HNC := Lib.hid hnc
          by_cases h6 : z ≤ 65536
          · have HF := Lib.hid (show headF s = some (⟨x - 1, x - 1 + y, ⟨#[]⟩⟩, z.toNat) from by rw [hhd]; exact if_pos h6)
            clear hna hnb hnc hhd ha hb hc
            go_enter Tryd.func45, Tryd.ntmps45
            go_wp2_with fail
            rw [HW0.out]
            refine HSP.out.mono ?_
            rintro e w2 ⟨rfl, rfl⟩
            rw [H3.out]
            go_wp2_with fail
            refine (HNA.out _ (Below.refl _ _)).mono ?_
            rintro e3 w3 ⟨⟨z0, rfl, hz0⟩, hb3⟩
            obtain rfl := hz0 _ rfl
            have t1 := cell_later hb3 s1
            go_wp2_with fail
            refine (HNB.out _ hb3).mono ?_
            rintro e4 w4 ⟨⟨z1, rfl, hz1⟩, hb4⟩
            obtain rfl := hz1 _ rfl
            have hb24 := hb3.trans (hb4.mono hb3.size)
            have t2 := cell_later hb24 s2
            go_wp2_with fail
            refine (HNC.out _ hb24).mono ?_
            rintro e5 w5 ⟨⟨z2, rfl, hz2⟩, hb5⟩
            obtain rfl := hz2 _ rfl
            have hb25 := hb24.trans (hb5.mono hb24.size)
            have hN2 : N < w2.heap.size := (Array.getElem?_eq_some_iff.1 HBX.out).1
            have HBX5 := Lib.hid ((hb25.block N hN2).trans HBX.out)
            have x0 : w5.cell? ⟨N, 0, none⟩ = some (.int .i64 0) := by rw [Lib.cell_of_heap HBX5.out]; rfl
            have x1 : w5.cell? ⟨N, 1, none⟩ = some (.int .i64 0) := by rw [Lib.cell_of_heap HBX5.out]; rfl
            have x2 : w5.cell? ⟨N, 2, none⟩ = some (.string ⟨#[]⟩) := by rw [Lib.cell_of_heap HBX5.out]; rfl
            have y0 := Lib.frozen_of_heap HBX5.out 0
            have y1 := Lib.frozen_of_heap HBX5.out 1
            have y2 := Lib.frozen_of_heap HBX5.out 2
            obtain ⟨f0, hf0⟩ : ∃ f0, IntKind.i64.wrap (z0 - 1) = f0 := ⟨_, rfl⟩
            obtain ⟨f1, hf1⟩ : ∃ f1, IntKind.i64.wrap (f0 + z1) = f1 := ⟨_, rfl⟩
            have HB5 := Lib.hid (HB1.out.trans (hb25.mono HB1.out.size))
            have HEQ := Lib.hid (show f0 = z0 - 1 ∧ f1 = z0 - 1 + z1 from by have e1 : IntKind.i64.wrap (z0 - 1) = z0 - 1 := IntWalk.i64_in _ (by omega); have e2 : IntKind.i64.wrap (z0 - 1 + z1) = z0 - 1 + z1 := IntWalk.i64_in _ (by omega); rw [e1] at hf0; subst hf0; rw [e2] at hf1; exact ⟨rfl, hf1.symm⟩)
            clear hb3 hb24 hb4 hb5 hb25 t1 t2
            go_wp2
            have hat := lay3_at HBX5.out (.int .i64 f0) (.int .i64 f1) (.string ⟨#[]⟩)
            have q0 : (lay3 w5 N (.int .i64 f0) (.int .i64 f1) (.string ⟨#[]⟩)).cell? ⟨N, 0, none⟩ = some (.int .i64 f0) := by rw [Lib.cell_of_heap hat]; rfl
            have q1 : (lay3 w5 N (.int .i64 f0) (.int .i64 f1) (.string ⟨#[]⟩)).cell? ⟨N, 1, none⟩ = some (.int .i64 f1) := by rw [Lib.cell_of_heap hat]; rfl
            have q2 : (lay3 w5 N (.int .i64 f0) (.int .i64 f1) (.string ⟨#[]⟩)).cell? ⟨N, 2, none⟩ = some (.string ⟨#[]⟩) := by rw [Lib.cell_of_heap hat]; rfl
            change bodyPost _ _ _ _ _ (lay3 w5 N (.int .i64 f0) (.int .i64 f1) (.string ⟨#[]⟩))
            refine bodyPost_ret (v := .tuple #[.agg #[.int .i64 f0, .int .i64 f1, .string ⟨#[]⟩], .int .i64 z2, .bool true]) (by simp [results, Tryd.results45, go_sem, q0, q1, q2]) rfl ?_
            exact ⟨⟨f0, f1, z2, by rw [HF.out]; rfl, fun ed k h => by
              rw [HF.out] at h
              simp only [Option.some.injEq, Prod.mk.injEq] at h
              obtain ⟨rfl, rfl⟩ := h
              exact ⟨HEQ.out.1, HEQ.out.2, by omega⟩⟩, lay3_below HB5.out (by omega) _ _ _⟩
          · have HF := Lib.hid (show headF s = none from by rw [hhd]; exact if_neg h6)
            have g6 : decide (z ≤ 65536) = false := by simpa using h6
            clear hna hnb hnc hhd ha hb hc
            go_enter Tryd.func45, Tryd.ntmps45
            go_wp2_with fail
            rw [HW0.out]
            refine HSP.out.mono ?_
            rintro e w2 ⟨rfl, rfl⟩
            rw [H3.out]
            go_wp2_with fail
            refine (HNA.out _ (Below.refl _ _)).mono ?_
            rintro e3 w3 ⟨⟨z0, rfl, hz0⟩, hb3⟩
            obtain rfl := hz0 _ rfl
            have t1 := cell_later hb3 s1
            go_wp2_with fail
            refine (HNB.out _ hb3).mono ?_
            rintro e4 w4 ⟨⟨z1, rfl, hz1⟩, hb4⟩
            obtain rfl := hz1 _ rfl
            have hb24 := hb3.trans (hb4.mono hb3.size)
            have t2 := cell_later hb24 s2
            go_wp2_with fail
            refine (HNC.out _ hb24).mono ?_
            rintro e5 w5 ⟨⟨z2, rfl, hz2⟩, hb5⟩
            obtain rfl := hz2 _ rfl
            have hb25 := hb24.trans (hb5.mono hb24.size)
            have hN2 : N < w2.heap.size := (Array.getElem?_eq_some_iff.1 HBX.out).1
            have HBX5 := Lib.hid ((hb25.block N hN2).trans HBX.out)
            have x0 : w5.cell? ⟨N, 0, none⟩ = some (.int .i64 0) := by rw [Lib.cell_of_heap HBX5.out]; rfl
            have x1 : w5.cell? ⟨N, 1, none⟩ = some (.int .i64 0) := by rw [Lib.cell_of_heap HBX5.out]; rfl
            have x2 : w5.cell? ⟨N, 2, none⟩ = some (.string ⟨#[]⟩) := by rw [Lib.cell_of_heap HBX5.out]; rfl
            have y0 := Lib.frozen_of_heap HBX5.out 0
            have y1 := Lib.frozen_of_heap HBX5.out 1
            have y2 := Lib.frozen_of_heap HBX5.out 2
            obtain ⟨f0, hf0⟩ : ∃ f0, IntKind.i64.wrap (z0 - 1) = f0 := ⟨_, rfl⟩
            obtain ⟨f1, hf1⟩ : ∃ f1, IntKind.i64.wrap (f0 + z1) = f1 := ⟨_, rfl⟩
            have HB5 := Lib.hid (HB1.out.trans (hb25.mono HB1.out.size))
            have HEQ := Lib.hid (show f0 = z0 - 1 ∧ f1 = z0 - 1 + z1 from by have e1 : IntKind.i64.wrap (z0 - 1) = z0 - 1 := IntWalk.i64_in _ (by omega); have e2 : IntKind.i64.wrap (z0 - 1 + z1) = z0 - 1 + z1 := IntWalk.i64_in _ (by omega); rw [e1] at hf0; subst hf0; rw [e2] at hf1; exact ⟨rfl, hf1.symm⟩)
            clear hb3 hb24 hb4 hb5 hb25 t1 t2
            go_wp2
            have hat := lay3_at HBX5.out (.int .i64 f0) (.int .i64 f1) (.string ⟨#[]⟩)
            have q0 : (lay3 w5 N (.int .i64 f0) (.int .i64 f1) (.string ⟨#[]⟩)).cell? ⟨N, 0, none⟩ = some (.int .i64 f0) := by rw [Lib.cell_of_heap hat]; rfl
            have q1 : (lay3 w5 N (.int .i64 f0) (.int .i64 f1) (.string ⟨#[]⟩)).cell? ⟨N, 1, none⟩ = some (.int .i64 f1) := by rw [Lib.cell_of_heap hat]; rfl
            have q2 : (lay3 w5 N (.int .i64 f0) (.int .i64 f1) (.string ⟨#[]⟩)).cell? ⟨N, 2, none⟩ = some (.string ⟨#[]⟩) := by rw [Lib.cell_of_heap hat]; rfl
            change bodyPost _ _ _ _ _ (lay3 w5 N (.int .i64 f0) (.int .i64 f1) (.string ⟨#[]⟩))
            refine bodyPost_ret (v := .tuple #[.agg #[.int .i64 f0, .int .i64 f1, .string ⟨#[]⟩], .int .i64 z2, .bool false]) (by simp [results, Tryd.results45, go_sem, q0, q1, q2]) rfl ?_
            exact ⟨⟨f0, f1, z2, by rw [HF.out]; rfl, fun ed k h => by rw [HF.out] at h; cases h⟩, lay3_below HB5.out (by omega) _ _ _⟩
  · obtain ⟨n, hn⟩ : ∃ n, L.length = n := ⟨_, rfl⟩
    rw [hn] at h3
    have hf : headF s = none := by
      unfold headF
      rw [hL]
      match L, hn with
      | [], _ => rfl
      | [a], _ => rfl
      | [a, b], _ => rfl
      | [a, b, c], h => exact (h3 (by rw [← h]; rfl)).elim
      | _ :: _ :: _ :: _ :: _, _ => rfl
    have HF := Lib.hid hf
    have g3 : ((n : Int) != 3) = true := by simp; omega
    have x0 : w1.cell? ⟨N, 0, none⟩ = some (.int .i64 0) := by rw [Lib.cell_of_heap HBX.out]; rfl
    have x1 : w1.cell? ⟨N, 1, none⟩ = some (.int .i64 0) := by rw [Lib.cell_of_heap HBX.out]; rfl
    have x2 : w1.cell? ⟨N, 2, none⟩ = some (.string ⟨#[]⟩) := by rw [Lib.cell_of_heap HBX.out]; rfl
    have z0 := Lib.frozen_of_heap HBX.out 0
    have z1 := Lib.frozen_of_heap HBX.out 1
    have z2 := Lib.frozen_of_heap HBX.out 2
    have HHN := Lib.hid hn
    clear hf hLl hL h3 hn
    go_enter Tryd.func45, Tryd.ntmps45
    go_wp2_with fail
    rw [HW0.out]
    refine HSP.out.mono ?_
    rintro e w2 ⟨rfl, rfl⟩
    rw [HHN.out]
    go_wp2
    have hat := lay3_at HBX.out (.int .i64 0) (.int .i64 0) (.string ⟨#[]⟩)
    have q0 : (lay3 w2 N (.int .i64 0) (.int .i64 0) (.string ⟨#[]⟩)).cell? ⟨N, 0, none⟩ = some (.int .i64 0) := by rw [Lib.cell_of_heap hat]; rfl
    have q1 : (lay3 w2 N (.int .i64 0) (.int .i64 0) (.string ⟨#[]⟩)).cell? ⟨N, 1, none⟩ = some (.int .i64 0) := by rw [Lib.cell_of_heap hat]; rfl
    have q2 : (lay3 w2 N (.int .i64 0) (.int .i64 0) (.string ⟨#[]⟩)).cell? ⟨N, 2, none⟩ = some (.string ⟨#[]⟩) := by rw [Lib.cell_of_heap hat]; rfl
    change bodyPost _ _ _ _ _ (lay3 w2 N (.int .i64 0) (.int .i64 0) (.string ⟨#[]⟩))
    refine bodyPost_ret (v := .tuple #[.agg #[.int .i64 0, .int .i64 0, .string ⟨#[]⟩], .int .i64 0, .bool false]) (by simp [results, Tryd.results45, go_sem, q0, q1, q2]) rfl ?_
    exact ⟨⟨0, 0, 0, by rw [HF.out]; rfl, fun ed k h => by rw [HF.out] at h; cases h⟩, lay3_below HB1.out (by omega) _ _ _⟩

end Go.Proofs.YtbodemkmjemdjaaDoor
