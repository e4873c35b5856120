/-
  What Parse answers, walked.
-/
import Derived.Test.YtbodemkmjemdjaaDoorParse
namespace Go.Proofs.YtbodemkmjemdjaaDoor
open Go.RowKit

theorem info44 : (Tryd.prog.info? 44).map (fun i => (i.zero, i.size, i.bytes)) = some (some (.agg #[.string ⟨#[]⟩, .slice none 0 0]), 2, 40) := by kernel_rfl

/-- Between two rounds of Parse: the n-th line comes, out has come. -/
structure PAt (W0 w : World) (base R : Nat) (lv : Value) (n : Nat) (out : List Chg) (rv : Value) (W : World) : Prop where
  low : Below W0.heap.size W0 W
  out_ : OutAt base W rv out
  r : W.heap[R]? = some (.cells #[lv, .int .i64 (n : Int)] 67 (0, 0))
  fits : ∀ x ∈ out, x.fits
  len : out.length ≤ n
theorem PAt.later {W0 w : World} {base R : Nat} {lv : Value} {n : Nat} {out : List Chg} {rv : Value} {W W' : World} (h : PAt W0 w base R lv n out rv W) (hb : Below W.heap.size W W') : PAt W0 w base R lv n out rv W' :=
  ⟨h.low.trans (hb.mono h.low.size), h.out_.later hb, (hb.block _ (Array.getElem?_eq_some_iff.1 h.r).1).trans h.r, h.fits, h.len⟩
theorem PAt.drew {W0 w : World} {base R : Nat} {lv : Value} {n : Nat} {out : List Chg} {rv : Value} {W : World} (h : PAt W0 w base R lv n out rv W) : PAt W0 w base R lv n out rv W.drew :=
  ⟨below_drew h.low, h.out_, h.r, h.fits, h.len⟩
theorem PAt.r1 {W0 w : World} {base R : Nat} {lv : Value} {n : Nat} {out : List Chg} {rv : Value} {W : World} (h : PAt W0 w base R lv n out rv W) : W.cell? ⟨R, 1, none⟩ = some (.int .i64 (n : Int)) := by rw [Lib.cell_of_heap h.r]; rfl
theorem PAt.r0 {W0 w : World} {base R : Nat} {lv : Value} {n : Nat} {out : List Chg} {rv : Value} {W : World} (h : PAt W0 w base R lv n out rv W) : W.cell? ⟨R, 0, none⟩ = some lv := by rw [Lib.cell_of_heap h.r]; rfl
theorem PAt.nOf {W0 w : World} {base R : Nat} {lv : Value} {n : Nat} {out : List Chg} {rv : Value} {W : World} (h : PAt W0 w base R lv n out rv W) : nOf R W = n := by
  unfold YtbodemkmjemdjaaDoor.nOf
  rw [h.r1]
  simp
theorem chgs_nil (W : World) : ChgsAt W (.slice none 0 0) [] := ⟨none, 0, rfl, Nat.le_refl _, Nat.zero_le _, Nat.zero_le _, (fun x hx => by cases hx), .inl rfl⟩

theorem nameOf_size (s : ByteArray) : (nameOf s).size ≤ s.size := by
  rw [Lib.size_eq, Lib.size_eq]
  show (Lib.trimPrefix s.data.toList [61, 32]).length ≤ _
  unfold Lib.trimPrefix
  split
  · simp
  · exact Nat.le_refl _

def ParsePost (s : ByteArray) (w : World) (e : Ending) (w' : World) : Prop :=
  ∃ v, e = .returned (.tuple #[v, .int .i64 ((parseF s).2.1 : Int), .int .i64 (parseF s).2.2]) ∧ ChgsAt w' v (parseF s).1 ∧ Below w.heap.size w w'

set_option maxRecDepth 100000 in
set_option maxHeartbeats 8000000 in
theorem parse_any (s : ByteArray) (ml : Int) (w : World) (hs : s.size ≤ 1000000) (hm : w.cell? ⟨1, 0, none⟩ = some (.int .i64 ml)) (hp : Pow10 w) (he : Errs w) : Calls Tryd.prog 10 #[.string s] w (ParsePost s w) := by
  obtain ⟨i0, hi, hz0, hz1, hz2⟩ := info_parts info44
  obtain ⟨X, hX⟩ : ∃ X, linesOf s = X := ⟨_, rfl⟩
  have hXl : X.length ≤ 1000000 := by rw [← hX]; exact Nat.le_trans (linesF_length _ _) hs
  have hLn : Lined X := by rw [← hX]; exact lined_of s
  have hJs : (joinB X).length ≤ 1000000 := by rw [← hX, linesOf_join, ← Lib.size_eq]; exact hs
  have hXs : ∀ y ∈ X, y.size ≤ 1000000 := fun y hy => by rw [← hX] at hy; exact Nat.le_trans (lines_size hy) hs
  have hln := lines_strs s (by omega) w
  rw [hX] at hln
  have hPF : parseF s = parseGo X (X.length + 1) 0 [] := by unfold parseF; rw [hX]
  have HPF := Lib.hid hPF
  have HLN := Lib.hid hln
  have HPW := Lib.hid hp
  have HER := Lib.hid he
  have HM := Lib.hid hm
  clear hX hln hPF hp he hm
  go_enter Tryd.func10, Tryd.ntmps10
  go_wp2_with fail
  refine HLN.out.mono ?_
  rintro e W0 ⟨la, lc, rfl, hst, hb0⟩
  have hS : Src W0 (.slice la X.length lc) X ml := ⟨hst, fun y hy => Nat.le_trans (hXs y hy) (by omega), cell_later hb0 HM.out, pow10_below HPW.out hb0, HER.out.later hb0⟩
  obtain ⟨R, hR⟩ : ∃ R, W0.heap.size = R := ⟨_, rfl⟩
  have HB0 := Lib.hid hb0
  have HR := Lib.hid hR
  clear hb0 hst
  go_wp2_with fail
  clear hR
  obtain ⟨XL, hXL⟩ : ∃ XL, X.length = XL := ⟨_, rfl⟩
  have HXL := Lib.hid hXL
  rw [hXL]
  obtain ⟨w1, hw1⟩ : ∃ w1, W0.alloc (.cells #[.slice la XL lc, .int .i64 0] 67) = w1 := ⟨_, rfl⟩
  have hp1 : PAt W0 w R R (.slice la XL lc) 0 [] (.slice none 0 0) w1 := by
    refine ⟨?_, OutAt.nil _ _, ?_, (fun x hx => by cases hx), Nat.le_refl _⟩
    · rw [← hw1]; exact (Below.refl _ W0).alloc (Nat.le_refl _) _
    · rw [← hw1, ← HR.out]; exact World.alloc_heap_new W0 _
  rw [hw1]
  have hS' : Src W0 (.slice la XL lc) X ml := by rw [← hXL]; exact hS
  have HS := Lib.hid hS'
  have HLned := Lib.hid hLn
  have HP1 := Lib.hid hp1
  clear hp1 hw1 hXL hS hS' hLn
  go_loopw [6] (fun sv wr => ∃ (n f : Nat) (out : List Chg) (rv : Value), X.length < n + f ∧ n ≤ X.length ∧ sv = rv ∧ parseGo X f n out = parseF s ∧ PAt W0 w R R (.slice la XL lc) n out rv wr) (fun _ wr => X.length - nOf R wr)
  case atStart => exact ⟨0, X.length + 1, [], _, by omega, Nat.zero_le _, rfl, HPF.out.symm, HP1.out⟩
  case round =>
    obtain ⟨n, f, out, rv, hf, hn, hsv, hpf, hpa⟩ := hrel
    have hsv2 := hsv.symm
    clear hsv
    subst hsv2
    obtain ⟨g, rfl⟩ : ∃ g, f = g + 1 := ⟨f - 1, by omega⟩
    rename World => wA
    have HPA := Lib.hid hpa
    have HPG := Lib.hid hpf
    clear hpa hpf
    have y0 : wA.drew.cell? ⟨R, 0, none⟩ = some (.slice la XL lc) := HPA.out.r0
    have y1 : wA.drew.cell? ⟨R, 1, none⟩ = some (.int .i64 (n : Int)) := HPA.out.r1
    have hnX : n ≤ XL := by have := HXL.out; omega
    by_cases hlt : n < XL
    · have hltX : n < X.length := by have := HXL.out; omega
      have hnge : ¬ X.length ≤ n := by omega
      have hnc := now_any R n (.slice la XL lc) X wA.drew y0 y1 (HS.out.x.later (below_drew HPA.out.low)) HS.out.size
      rcases hnw : nowF X n with ⟨s1, i1⟩
      rw [hnw] at hnc
      dsimp only at hnc
      have hs1 : s1.size ≤ 1000000 := by have := now_size (n := n) hXs; rw [hnw] at this; exact this
      have hcp := fun W => Tryd.strings_CutPrefix s1 ⟨#[61, 32]⟩ W
      rw [show (⟨#[61, 32]⟩ : ByteArray).data.toList = [61, 32] from rfl] at hcp
      obtain ⟨nm, hnm⟩ : ∃ nm, nameOf s1 = nm := ⟨_, rfl⟩
      rw [show (⟨(Lib.trimPrefix s1.data.toList [61, 32]).toArray⟩ : ByteArray) = nm from hnm] at hcp
      obtain ⟨was, hwas⟩ : ∃ was, Lib.hasPrefix s1.data.toList [61, 32] = was := ⟨_, rfl⟩
      rw [hwas] at hcp
      have hnms : nm.size ≤ 1000000 := by rw [← hnm]; exact Nat.le_trans (nameOf_size s1) hs1
      have hnl : nameLine (nowF X n) out = (i1 && was && pathOk nm && (match out.getLast? with | none => true | some c => !leB nm c.name)) := by
        rw [hnw, ← hnm, ← hwas]
        rfl
      obtain ⟨ra, rc, hrv⟩ : ∃ ra rc, rv = .slice ra out.length rc := by
        obtain ⟨xs, hr, _⟩ := HPA.out.out_
        rcases hr.2 with ⟨rfl, h0⟩ | ⟨gg, cap, cur, rfl, _⟩
        · exact ⟨none, 0, by rw [h0]⟩
        · exact ⟨_, _, rfl⟩
      obtain ⟨L, hL⟩ : ∃ L, out.length = L := ⟨_, rfl⟩
      have hLn : L ≤ n := by rw [← hL]; exact HPA.out.len
      rw [hL] at hrv
      subst hrv
      have hpc := fun W (hW : Below wA.heap.size wA W) => path_any nm ml W (by omega) (cell_later (HPA.out.low.trans (hW.mono HPA.out.low.size)) HS.out.m)
      have HPC := Lib.hid hpc
      have HNC := Lib.hid hnc
      have HCP := Lib.hid hcp
      have HNW := Lib.hid hnw
      have HNM := Lib.hid hnm
      have HNL := Lib.hid hnl
      have HL := Lib.hid hL
      clear hpc hnc hcp hnw hnm hnl hL hwas
      cases i1 with
      | false =>
        have hfl : nameLine (nowF X n) out = false := HNL.out
        have hpe : parseF s = ([], n + 1, 240) := by
          rw [← HPG.out]
          unfold parseGo
          rw [if_neg hnge, if_neg (by rw [hfl]; simp)]
        have HPE := Lib.hid hpe
        clear hfl hpe
        go_wp2_with fail
        refine wp_region_held_drew (S := fun w' : World => w'.cell? ⟨R, 0, none⟩ = some (.slice la XL lc) ∧ w'.cell? ⟨R, 1, none⟩ = some (.int .i64 (n : Int))) (by kernel_rfl) ⟨y0, y1⟩ (fun hHeld => ?_)
        refine takeH (i := 0) (d := some 17) (v := ?_) rfl rfl (by kernel_rfl) (by kernel_rfl) (by kernel_rfl) (fun _ _ _ h => h) (by rfl) ?_ (by assumption) ?_
        rotate_left 1
        · intro w hSw; (try dsimp only at hSw); go_simp; try with_reducible rfl
        simp only [Act.put, List.setIfInBounds_toArray, List.set]
        refine takeH (i := 1) (d := some 18) (v := ?_) rfl rfl (by kernel_rfl) (by kernel_rfl) (by kernel_rfl) (fun _ _ _ h => h) (by rfl) ?_ (by assumption) ?_
        rotate_left 1
        · intro w hSw; (try dsimp only at hSw); go_simp; try with_reducible rfl
        simp only [Act.put, List.setIfInBounds_toArray, List.set]
        refine takeH (i := 2) (d := some 19) (v := ?_) rfl rfl (by kernel_rfl) (by kernel_rfl) (by kernel_rfl) (fun _ _ _ h => h) (by rfl) ?_ (by assumption) ?_
        rotate_left 1
        · intro w hSw; (try dsimp only at hSw); go_simp; try with_reducible rfl
        simp only [Act.put, List.setIfInBounds_toArray, List.set]
        refine takeH (i := 3) (d := some 20) (v := ?_) rfl rfl (by kernel_rfl) (by kernel_rfl) (by kernel_rfl) (fun _ _ _ h => h) (by rfl) ?_ (by assumption) ?_
        rotate_left 1
        · intro w hSw; (try dsimp only at hSw); go_simp; try with_reducible rfl
        simp only [Act.put, List.setIfInBounds_toArray, List.set]
        refine takeH (i := 4) (d := some 21) (v := ?_) rfl rfl (by kernel_rfl) (by kernel_rfl) (by kernel_rfl) (fun _ _ _ h => h) (by rfl) ?_ (by assumption) ?_
        rotate_left 1
        · intro w hSw; (try dsimp only at hSw); go_simp; try with_reducible rfl
        simp only [Act.put, List.setIfInBounds_toArray, List.set]
        refine takeH (i := 5) (d := some 22) (v := ?_) rfl rfl (by kernel_rfl) (by kernel_rfl) (by kernel_rfl) (fun _ _ _ h => h) (by rfl) ?_ (by assumption) ?_
        rotate_left 1
        · intro w hSw; (try dsimp only at hSw); go_simp; try with_reducible rfl
        simp only [Act.put, List.setIfInBounds_toArray, List.set]
        refine takeH (i := 6) (d := some 23) (v := ?_) rfl rfl (by kernel_rfl) (by kernel_rfl) (by kernel_rfl) (fun _ _ _ h => h) (by rfl) ?_ (by assumption) ?_
        rotate_left 1
        · intro w hSw; (try dsimp only at hSw); go_simp; try with_reducible rfl
        simp only [Act.put, List.setIfInBounds_toArray, List.set]
        refine takeH (i := 7) (d := some 24) (v := ?_) rfl rfl (by kernel_rfl) (by kernel_rfl) (by kernel_rfl) (fun _ _ _ h => h) (by rfl) ?_ (by assumption) ?_
        rotate_left 1
        · intro w hSw; (try dsimp only at hSw); go_simp; try with_reducible rfl
        simp only [Act.put, List.setIfInBounds_toArray, List.set]
        refine takeH (i := 8) (d := some 25) (v := ?_) rfl rfl (by kernel_rfl) (by kernel_rfl) (by kernel_rfl) (fun _ _ _ h => h) (by rfl) ?_ (by assumption) ?_
        rotate_left 1
        · intro w hSw; (try dsimp only at hSw); go_simp; try with_reducible rfl
        simp only [Act.put, List.setIfInBounds_toArray, List.set]
        refine takeH (i := 9) (d := some 26) (v := ?_) rfl rfl (by kernel_rfl) (by kernel_rfl) (by kernel_rfl) (fun _ _ _ h => h) (by rfl) ?_ (by assumption) ?_
        rotate_left 1
        · intro w hSw; (try dsimp only at hSw); go_simp; try with_reducible rfl
        simp only [Act.put, List.setIfInBounds_toArray, List.set]
        refine wpAnyH_done (by kernel_rfl) ?_ _
        go_wp2_with fail
        refine HNC.out.mono ?_
        rintro e w2 ⟨rfl, hb2⟩
        have HPA2 := Lib.hid (HPA.out.drew.later hb2)
        clear hb2
        go_wp2_with fail
        refine (HCP.out _).mono ?_
        rintro e w3 ⟨rfl, rfl⟩
        go_wp2_with fail
        have y1 : w3.drew.cell? ⟨R, 1, none⟩ = some (.int .i64 (n : Int)) := HPA2.out.r1
        have hw7 : IntKind.i64.wrap ((n : Int) + 1) = (n : Int) + 1 := by rw [IntKind.wrap_i64]; omega
        refine wp_region_held_drew (S := fun w' : World => w'.cell? ⟨R, 1, none⟩ = some (.int .i64 (n : Int))) (by kernel_rfl) y1 (fun hHeld => ?_)
        refine takeH (i := 0) (d := some 64) (v := ?_) rfl rfl (by kernel_rfl) (by kernel_rfl) (by kernel_rfl) (fun _ _ _ h => h) (by rfl) ?_ (by assumption) ?_
        rotate_left 1
        · intro w hSw; (try dsimp only at hSw); go_simp; try with_reducible rfl
        simp only [Act.put, List.setIfInBounds_toArray, List.set]
        refine takeH (i := 1) (d := some 65) (v := ?_) rfl rfl (by kernel_rfl) (by kernel_rfl) (by kernel_rfl) (fun _ _ _ h => h) (by rfl) ?_ (by assumption) ?_
        rotate_left 1
        · intro w hSw; (try dsimp only at hSw); go_simp; try with_reducible rfl
        simp only [Act.put, List.setIfInBounds_toArray, List.set]
        refine takeH (i := 2) (d := some 66) (v := ?_) rfl rfl (by kernel_rfl) (by kernel_rfl) (by kernel_rfl) (fun _ _ _ h => h) (by rfl) ?_ (by assumption) ?_
        rotate_left 1
        · intro w hSw; (try dsimp only at hSw); go_simp; try with_reducible rfl
        simp only [Act.put, List.setIfInBounds_toArray, List.set]
        refine takeH (i := 3) (d := some 67) (v := ?_) rfl rfl (by kernel_rfl) (by kernel_rfl) (by kernel_rfl) (fun _ _ _ h => h) (by rfl) ?_ (by assumption) ?_
        rotate_left 1
        · intro w hSw; (try dsimp only at hSw); go_simp; try with_reducible rfl
        simp only [Act.put, List.setIfInBounds_toArray, List.set]
        refine takeH (i := 4) (d := some 68) (v := ?_) rfl rfl (by kernel_rfl) (by kernel_rfl) (by kernel_rfl) (fun _ _ _ h => h) (by rfl) ?_ (by assumption) ?_
        rotate_left 1
        · intro w hSw; (try dsimp only at hSw); go_simp; try with_reducible rfl
        simp only [Act.put, List.setIfInBounds_toArray, List.set]
        refine takeH (i := 5) (d := some 2) (v := ?_) rfl rfl (by kernel_rfl) (by kernel_rfl) (by kernel_rfl) (fun _ _ _ h => h) (by rfl) ?_ (by assumption) ?_
        rotate_left 1
        · intro w hSw; (try dsimp only at hSw); go_simp; try with_reducible rfl
        simp only [Act.put, List.setIfInBounds_toArray, List.set]
        refine takeH (i := 6) (d := some 3) (v := ?_) rfl rfl (by kernel_rfl) (by kernel_rfl) (by kernel_rfl) (fun _ _ _ h => h) (by rfl) ?_ (by assumption) ?_
        rotate_left 1
        · intro w hSw; (try dsimp only at hSw); go_simp; try with_reducible rfl
        simp only [Act.put, List.setIfInBounds_toArray, List.set]
        refine takeH (i := 7) (d := some 4) (v := ?_) rfl rfl (by kernel_rfl) (by kernel_rfl) (by kernel_rfl) (fun _ _ _ h => h) (by rfl) ?_ (by assumption) ?_
        rotate_left 1
        · intro w hSw; (try dsimp only at hSw); go_simp; try with_reducible rfl
        simp only [Act.put, List.setIfInBounds_toArray, List.set]
        refine wpAnyH_done (by kernel_rfl) ?_ _
        go_wp2
        go_ret3
        exact ⟨.slice none 0 0, by rw [HPE.out]; rfl, by rw [HPE.out]; exact chgs_nil _, below_drew (HB0.out.trans (HPA2.out.low.mono HB0.out.size))⟩
      | true =>
        cases was with
        | false =>
          have hfl : nameLine (nowF X n) out = false := HNL.out
          have hpe : parseF s = ([], n + 1, 240) := by
            rw [← HPG.out]
            unfold parseGo
            rw [if_neg hnge, if_neg (by rw [hfl]; simp)]
          have HPE := Lib.hid hpe
          clear hfl hpe
          go_wp2_with fail
          refine wp_region_held_drew (S := fun w' : World => w'.cell? ⟨R, 0, none⟩ = some (.slice la XL lc) ∧ w'.cell? ⟨R, 1, none⟩ = some (.int .i64 (n : Int))) (by kernel_rfl) ⟨y0, y1⟩ (fun hHeld => ?_)
          refine takeH (i := 0) (d := some 17) (v := ?_) rfl rfl (by kernel_rfl) (by kernel_rfl) (by kernel_rfl) (fun _ _ _ h => h) (by rfl) ?_ (by assumption) ?_
          rotate_left 1
          · intro w hSw; (try dsimp only at hSw); go_simp; try with_reducible rfl
          simp only [Act.put, List.setIfInBounds_toArray, List.set]
          refine takeH (i := 1) (d := some 18) (v := ?_) rfl rfl (by kernel_rfl) (by kernel_rfl) (by kernel_rfl) (fun _ _ _ h => h) (by rfl) ?_ (by assumption) ?_
          rotate_left 1
          · intro w hSw; (try dsimp only at hSw); go_simp; try with_reducible rfl
          simp only [Act.put, List.setIfInBounds_toArray, List.set]
          refine takeH (i := 2) (d := some 19) (v := ?_) rfl rfl (by kernel_rfl) (by kernel_rfl) (by kernel_rfl) (fun _ _ _ h => h) (by rfl) ?_ (by assumption) ?_
          rotate_left 1
          · intro w hSw; (try dsimp only at hSw); go_simp; try with_reducible rfl
          simp only [Act.put, List.setIfInBounds_toArray, List.set]
          refine takeH (i := 3) (d := some 20) (v := ?_) rfl rfl (by kernel_rfl) (by kernel_rfl) (by kernel_rfl) (fun _ _ _ h => h) (by rfl) ?_ (by assumption) ?_
          rotate_left 1
          · intro w hSw; (try dsimp only at hSw); go_simp; try with_reducible rfl
          simp only [Act.put, List.setIfInBounds_toArray, List.set]
          refine takeH (i := 4) (d := some 21) (v := ?_) rfl rfl (by kernel_rfl) (by kernel_rfl) (by kernel_rfl) (fun _ _ _ h => h) (by rfl) ?_ (by assumption) ?_
          rotate_left 1
          · intro w hSw; (try dsimp only at hSw); go_simp; try with_reducible rfl
          simp only [Act.put, List.setIfInBounds_toArray, List.set]
          refine takeH (i := 5) (d := some 22) (v := ?_) rfl rfl (by kernel_rfl) (by kernel_rfl) (by kernel_rfl) (fun _ _ _ h => h) (by rfl) ?_ (by assumption) ?_
          rotate_left 1
          · intro w hSw; (try dsimp only at hSw); go_simp; try with_reducible rfl
          simp only [Act.put, List.setIfInBounds_toArray, List.set]
          refine takeH (i := 6) (d := some 23) (v := ?_) rfl rfl (by kernel_rfl) (by kernel_rfl) (by kernel_rfl) (fun _ _ _ h => h) (by rfl) ?_ (by assumption) ?_
          rotate_left 1
          · intro w hSw; (try dsimp only at hSw); go_simp; try with_reducible rfl
          simp only [Act.put, List.setIfInBounds_toArray, List.set]
          refine takeH (i := 7) (d := some 24) (v := ?_) rfl rfl (by kernel_rfl) (by kernel_rfl) (by kernel_rfl) (fun _ _ _ h => h) (by rfl) ?_ (by assumption) ?_
          rotate_left 1
          · intro w hSw; (try dsimp only at hSw); go_simp; try with_reducible rfl
          simp only [Act.put, List.setIfInBounds_toArray, List.set]
          refine takeH (i := 8) (d := some 25) (v := ?_) rfl rfl (by kernel_rfl) (by kernel_rfl) (by kernel_rfl) (fun _ _ _ h => h) (by rfl) ?_ (by assumption) ?_
          rotate_left 1
          · intro w hSw; (try dsimp only at hSw); go_simp; try with_reducible rfl
          simp only [Act.put, List.setIfInBounds_toArray, List.set]
          refine takeH (i := 9) (d := some 26) (v := ?_) rfl rfl (by kernel_rfl) (by kernel_rfl) (by kernel_rfl) (fun _ _ _ h => h) (by rfl) ?_ (by assumption) ?_
          rotate_left 1
          · intro w hSw; (try dsimp only at hSw); go_simp; try with_reducible rfl
          simp only [Act.put, List.setIfInBounds_toArray, List.set]
          refine wpAnyH_done (by kernel_rfl) ?_ _
          go_wp2_with fail
          refine HNC.out.mono ?_
          rintro e w2 ⟨rfl, hb2⟩
          have HPA2 := Lib.hid (HPA.out.drew.later hb2)
          clear hb2
          go_wp2_with fail
          refine (HCP.out _).mono ?_
          rintro e w3 ⟨rfl, rfl⟩
          go_wp2_with fail
          have y1 : w3.drew.cell? ⟨R, 1, none⟩ = some (.int .i64 (n : Int)) := HPA2.out.r1
          have hw7 : IntKind.i64.wrap ((n : Int) + 1) = (n : Int) + 1 := by rw [IntKind.wrap_i64]; omega
          refine wp_region_held_drew (S := fun w' : World => w'.cell? ⟨R, 1, none⟩ = some (.int .i64 (n : Int))) (by kernel_rfl) y1 (fun hHeld => ?_)
          refine takeH (i := 0) (d := some 64) (v := ?_) rfl rfl (by kernel_rfl) (by kernel_rfl) (by kernel_rfl) (fun _ _ _ h => h) (by rfl) ?_ (by assumption) ?_
          rotate_left 1
          · intro w hSw; (try dsimp only at hSw); go_simp; try with_reducible rfl
          simp only [Act.put, List.setIfInBounds_toArray, List.set]
          refine takeH (i := 1) (d := some 65) (v := ?_) rfl rfl (by kernel_rfl) (by kernel_rfl) (by kernel_rfl) (fun _ _ _ h => h) (by rfl) ?_ (by assumption) ?_
          rotate_left 1
          · intro w hSw; (try dsimp only at hSw); go_simp; try with_reducible rfl
          simp only [Act.put, List.setIfInBounds_toArray, List.set]
          refine takeH (i := 2) (d := some 66) (v := ?_) rfl rfl (by kernel_rfl) (by kernel_rfl) (by kernel_rfl) (fun _ _ _ h => h) (by rfl) ?_ (by assumption) ?_
          rotate_left 1
          · intro w hSw; (try dsimp only at hSw); go_simp; try with_reducible rfl
          simp only [Act.put, List.setIfInBounds_toArray, List.set]
          refine takeH (i := 3) (d := some 67) (v := ?_) rfl rfl (by kernel_rfl) (by kernel_rfl) (by kernel_rfl) (fun _ _ _ h => h) (by rfl) ?_ (by assumption) ?_
          rotate_left 1
          · intro w hSw; (try dsimp only at hSw); go_simp; try with_reducible rfl
          simp only [Act.put, List.setIfInBounds_toArray, List.set]
          refine takeH (i := 4) (d := some 68) (v := ?_) rfl rfl (by kernel_rfl) (by kernel_rfl) (by kernel_rfl) (fun _ _ _ h => h) (by rfl) ?_ (by assumption) ?_
          rotate_left 1
          · intro w hSw; (try dsimp only at hSw); go_simp; try with_reducible rfl
          simp only [Act.put, List.setIfInBounds_toArray, List.set]
          refine takeH (i := 5) (d := some 2) (v := ?_) rfl rfl (by kernel_rfl) (by kernel_rfl) (by kernel_rfl) (fun _ _ _ h => h) (by rfl) ?_ (by assumption) ?_
          rotate_left 1
          · intro w hSw; (try dsimp only at hSw); go_simp; try with_reducible rfl
          simp only [Act.put, List.setIfInBounds_toArray, List.set]
          refine takeH (i := 6) (d := some 3) (v := ?_) rfl rfl (by kernel_rfl) (by kernel_rfl) (by kernel_rfl) (fun _ _ _ h => h) (by rfl) ?_ (by assumption) ?_
          rotate_left 1
          · intro w hSw; (try dsimp only at hSw); go_simp; try with_reducible rfl
          simp only [Act.put, List.setIfInBounds_toArray, List.set]
          refine takeH (i := 7) (d := some 4) (v := ?_) rfl rfl (by kernel_rfl) (by kernel_rfl) (by kernel_rfl) (fun _ _ _ h => h) (by rfl) ?_ (by assumption) ?_
          rotate_left 1
          · intro w hSw; (try dsimp only at hSw); go_simp; try with_reducible rfl
          simp only [Act.put, List.setIfInBounds_toArray, List.set]
          refine wpAnyH_done (by kernel_rfl) ?_ _
          go_wp2
          go_ret3
          exact ⟨.slice none 0 0, by rw [HPE.out]; rfl, by rw [HPE.out]; exact chgs_nil _, below_drew (HB0.out.trans (HPA2.out.low.mono HB0.out.size))⟩
        | true =>
          cases hpo : pathOk nm with
          | false =>
            have hfl : nameLine (nowF X n) out = false := by have := HNL.out; rw [hpo] at this; exact this
            have HPO := Lib.hid hpo
            clear hpo
            have hpe : parseF s = ([], n + 1, 240) := by
              rw [← HPG.out]
              unfold parseGo
              rw [if_neg hnge, if_neg (by rw [hfl]; simp)]
            have HPE := Lib.hid hpe
            clear hfl hpe
            go_wp2_with fail
            refine wp_region_held_drew (S := fun w' : World => w'.cell? ⟨R, 0, none⟩ = some (.slice la XL lc) ∧ w'.cell? ⟨R, 1, none⟩ = some (.int .i64 (n : Int))) (by kernel_rfl) ⟨y0, y1⟩ (fun hHeld => ?_)
            refine takeH (i := 0) (d := some 17) (v := ?_) rfl rfl (by kernel_rfl) (by kernel_rfl) (by kernel_rfl) (fun _ _ _ h => h) (by rfl) ?_ (by assumption) ?_
            rotate_left 1
            · intro w hSw; (try dsimp only at hSw); go_simp; try with_reducible rfl
            simp only [Act.put, List.setIfInBounds_toArray, List.set]
            refine takeH (i := 1) (d := some 18) (v := ?_) rfl rfl (by kernel_rfl) (by kernel_rfl) (by kernel_rfl) (fun _ _ _ h => h) (by rfl) ?_ (by assumption) ?_
            rotate_left 1
            · intro w hSw; (try dsimp only at hSw); go_simp; try with_reducible rfl
            simp only [Act.put, List.setIfInBounds_toArray, List.set]
            refine takeH (i := 2) (d := some 19) (v := ?_) rfl rfl (by kernel_rfl) (by kernel_rfl) (by kernel_rfl) (fun _ _ _ h => h) (by rfl) ?_ (by assumption) ?_
            rotate_left 1
            · intro w hSw; (try dsimp only at hSw); go_simp; try with_reducible rfl
            simp only [Act.put, List.setIfInBounds_toArray, List.set]
            refine takeH (i := 3) (d := some 20) (v := ?_) rfl rfl (by kernel_rfl) (by kernel_rfl) (by kernel_rfl) (fun _ _ _ h => h) (by rfl) ?_ (by assumption) ?_
            rotate_left 1
            · intro w hSw; (try dsimp only at hSw); go_simp; try with_reducible rfl
            simp only [Act.put, List.setIfInBounds_toArray, List.set]
            refine takeH (i := 4) (d := some 21) (v := ?_) rfl rfl (by kernel_rfl) (by kernel_rfl) (by kernel_rfl) (fun _ _ _ h => h) (by rfl) ?_ (by assumption) ?_
            rotate_left 1
            · intro w hSw; (try dsimp only at hSw); go_simp; try with_reducible rfl
            simp only [Act.put, List.setIfInBounds_toArray, List.set]
            refine takeH (i := 5) (d := some 22) (v := ?_) rfl rfl (by kernel_rfl) (by kernel_rfl) (by kernel_rfl) (fun _ _ _ h => h) (by rfl) ?_ (by assumption) ?_
            rotate_left 1
            · intro w hSw; (try dsimp only at hSw); go_simp; try with_reducible rfl
            simp only [Act.put, List.setIfInBounds_toArray, List.set]
            refine takeH (i := 6) (d := some 23) (v := ?_) rfl rfl (by kernel_rfl) (by kernel_rfl) (by kernel_rfl) (fun _ _ _ h => h) (by rfl) ?_ (by assumption) ?_
            rotate_left 1
            · intro w hSw; (try dsimp only at hSw); go_simp; try with_reducible rfl
            simp only [Act.put, List.setIfInBounds_toArray, List.set]
            refine takeH (i := 7) (d := some 24) (v := ?_) rfl rfl (by kernel_rfl) (by kernel_rfl) (by kernel_rfl) (fun _ _ _ h => h) (by rfl) ?_ (by assumption) ?_
            rotate_left 1
            · intro w hSw; (try dsimp only at hSw); go_simp; try with_reducible rfl
            simp only [Act.put, List.setIfInBounds_toArray, List.set]
            refine takeH (i := 8) (d := some 25) (v := ?_) rfl rfl (by kernel_rfl) (by kernel_rfl) (by kernel_rfl) (fun _ _ _ h => h) (by rfl) ?_ (by assumption) ?_
            rotate_left 1
            · intro w hSw; (try dsimp only at hSw); go_simp; try with_reducible rfl
            simp only [Act.put, List.setIfInBounds_toArray, List.set]
            refine takeH (i := 9) (d := some 26) (v := ?_) rfl rfl (by kernel_rfl) (by kernel_rfl) (by kernel_rfl) (fun _ _ _ h => h) (by rfl) ?_ (by assumption) ?_
            rotate_left 1
            · intro w hSw; (try dsimp only at hSw); go_simp; try with_reducible rfl
            simp only [Act.put, List.setIfInBounds_toArray, List.set]
            refine wpAnyH_done (by kernel_rfl) ?_ _
            go_wp2_with fail
            refine HNC.out.mono ?_
            rintro e w2 ⟨rfl, hb2⟩
            have HPA2 := Lib.hid (HPA.out.drew.later hb2)
            have HB2 := Lib.hid ((below_drew (Below.refl _ wA)).trans hb2)
            clear hb2
            go_wp2_with fail
            refine (HCP.out _).mono ?_
            rintro e w3 ⟨rfl, rfl⟩
            go_wp2_with fail
            refine (HPC.out _ HB2.out).mono ?_
            rintro e w4 ⟨rfl, hb4⟩
            rw [HPO.out]
            have HPA4 := Lib.hid (HPA2.out.later hb4)
            clear hb4
            go_wp2_with fail
            have y1 : w4.drew.cell? ⟨R, 1, none⟩ = some (.int .i64 (n : Int)) := HPA4.out.r1
            have hw7 : IntKind.i64.wrap ((n : Int) + 1) = (n : Int) + 1 := by rw [IntKind.wrap_i64]; omega
            refine wp_region_held_drew (S := fun w' : World => w'.cell? ⟨R, 1, none⟩ = some (.int .i64 (n : Int))) (by kernel_rfl) y1 (fun hHeld => ?_)
            refine takeH (i := 0) (d := some 64) (v := ?_) rfl rfl (by kernel_rfl) (by kernel_rfl) (by kernel_rfl) (fun _ _ _ h => h) (by rfl) ?_ (by assumption) ?_
            rotate_left 1
            · intro w hSw; (try dsimp only at hSw); go_simp; try with_reducible rfl
            simp only [Act.put, List.setIfInBounds_toArray, List.set]
            refine takeH (i := 1) (d := some 65) (v := ?_) rfl rfl (by kernel_rfl) (by kernel_rfl) (by kernel_rfl) (fun _ _ _ h => h) (by rfl) ?_ (by assumption) ?_
            rotate_left 1
            · intro w hSw; (try dsimp only at hSw); go_simp; try with_reducible rfl
            simp only [Act.put, List.setIfInBounds_toArray, List.set]
            refine takeH (i := 2) (d := some 66) (v := ?_) rfl rfl (by kernel_rfl) (by kernel_rfl) (by kernel_rfl) (fun _ _ _ h => h) (by rfl) ?_ (by assumption) ?_
            rotate_left 1
            · intro w hSw; (try dsimp only at hSw); go_simp; try with_reducible rfl
            simp only [Act.put, List.setIfInBounds_toArray, List.set]
            refine takeH (i := 3) (d := some 67) (v := ?_) rfl rfl (by kernel_rfl) (by kernel_rfl) (by kernel_rfl) (fun _ _ _ h => h) (by rfl) ?_ (by assumption) ?_
            rotate_left 1
            · intro w hSw; (try dsimp only at hSw); go_simp; try with_reducible rfl
            simp only [Act.put, List.setIfInBounds_toArray, List.set]
            refine takeH (i := 4) (d := some 68) (v := ?_) rfl rfl (by kernel_rfl) (by kernel_rfl) (by kernel_rfl) (fun _ _ _ h => h) (by rfl) ?_ (by assumption) ?_
            rotate_left 1
            · intro w hSw; (try dsimp only at hSw); go_simp; try with_reducible rfl
            simp only [Act.put, List.setIfInBounds_toArray, List.set]
            refine takeH (i := 5) (d := some 2) (v := ?_) rfl rfl (by kernel_rfl) (by kernel_rfl) (by kernel_rfl) (fun _ _ _ h => h) (by rfl) ?_ (by assumption) ?_
            rotate_left 1
            · intro w hSw; (try dsimp only at hSw); go_simp; try with_reducible rfl
            simp only [Act.put, List.setIfInBounds_toArray, List.set]
            refine takeH (i := 6) (d := some 3) (v := ?_) rfl rfl (by kernel_rfl) (by kernel_rfl) (by kernel_rfl) (fun _ _ _ h => h) (by rfl) ?_ (by assumption) ?_
            rotate_left 1
            · intro w hSw; (try dsimp only at hSw); go_simp; try with_reducible rfl
            simp only [Act.put, List.setIfInBounds_toArray, List.set]
            refine takeH (i := 7) (d := some 4) (v := ?_) rfl rfl (by kernel_rfl) (by kernel_rfl) (by kernel_rfl) (fun _ _ _ h => h) (by rfl) ?_ (by assumption) ?_
            rotate_left 1
            · intro w hSw; (try dsimp only at hSw); go_simp; try with_reducible rfl
            simp only [Act.put, List.setIfInBounds_toArray, List.set]
            refine wpAnyH_done (by kernel_rfl) ?_ _
            go_wp2
            go_ret3
            exact ⟨.slice none 0 0, by rw [HPE.out]; rfl, by rw [HPE.out]; exact chgs_nil _, below_drew (HB0.out.trans (HPA4.out.low.mono HB0.out.size))⟩
          | true =>
            have HPO := Lib.hid hpo
            clear hpo
            by_cases hL0 : L = 0
            · have hfl : nameLine (nowF X n) out = true := by
                have := HNL.out
                rw [HPO.out, List.eq_nil_of_length_eq_zero (show out.length = 0 by have := HL.out; omega)] at this
                rw [List.eq_nil_of_length_eq_zero (show out.length = 0 by have := HL.out; omega), this]; rfl
              have gL : decide ((0 : Int) < (L : Int)) = false := by simp; omega
              have gL2 : ¬ 0 < L := by omega
              clear hL0
              go_wp2_with fail
              refine wp_region_held_drew (S := fun w' : World => w'.cell? ⟨R, 0, none⟩ = some (.slice la XL lc) ∧ w'.cell? ⟨R, 1, none⟩ = some (.int .i64 (n : Int))) (by kernel_rfl) ⟨y0, y1⟩ (fun hHeld => ?_)
              refine takeH (i := 0) (d := some 17) (v := ?_) rfl rfl (by kernel_rfl) (by kernel_rfl) (by kernel_rfl) (fun _ _ _ h => h) (by rfl) ?_ (by assumption) ?_
              rotate_left 1
              · intro w hSw; (try dsimp only at hSw); go_simp; try with_reducible rfl
              simp only [Act.put, List.setIfInBounds_toArray, List.set]
              refine takeH (i := 1) (d := some 18) (v := ?_) rfl rfl (by kernel_rfl) (by kernel_rfl) (by kernel_rfl) (fun _ _ _ h => h) (by rfl) ?_ (by assumption) ?_
              rotate_left 1
              · intro w hSw; (try dsimp only at hSw); go_simp; try with_reducible rfl
              simp only [Act.put, List.setIfInBounds_toArray, List.set]
              refine takeH (i := 2) (d := some 19) (v := ?_) rfl rfl (by kernel_rfl) (by kernel_rfl) (by kernel_rfl) (fun _ _ _ h => h) (by rfl) ?_ (by assumption) ?_
              rotate_left 1
              · intro w hSw; (try dsimp only at hSw); go_simp; try with_reducible rfl
              simp only [Act.put, List.setIfInBounds_toArray, List.set]
              refine takeH (i := 3) (d := some 20) (v := ?_) rfl rfl (by kernel_rfl) (by kernel_rfl) (by kernel_rfl) (fun _ _ _ h => h) (by rfl) ?_ (by assumption) ?_
              rotate_left 1
              · intro w hSw; (try dsimp only at hSw); go_simp; try with_reducible rfl
              simp only [Act.put, List.setIfInBounds_toArray, List.set]
              refine takeH (i := 4) (d := some 21) (v := ?_) rfl rfl (by kernel_rfl) (by kernel_rfl) (by kernel_rfl) (fun _ _ _ h => h) (by rfl) ?_ (by assumption) ?_
              rotate_left 1
              · intro w hSw; (try dsimp only at hSw); go_simp; try with_reducible rfl
              simp only [Act.put, List.setIfInBounds_toArray, List.set]
              refine takeH (i := 5) (d := some 22) (v := ?_) rfl rfl (by kernel_rfl) (by kernel_rfl) (by kernel_rfl) (fun _ _ _ h => h) (by rfl) ?_ (by assumption) ?_
              rotate_left 1
              · intro w hSw; (try dsimp only at hSw); go_simp; try with_reducible rfl
              simp only [Act.put, List.setIfInBounds_toArray, List.set]
              refine takeH (i := 6) (d := some 23) (v := ?_) rfl rfl (by kernel_rfl) (by kernel_rfl) (by kernel_rfl) (fun _ _ _ h => h) (by rfl) ?_ (by assumption) ?_
              rotate_left 1
              · intro w hSw; (try dsimp only at hSw); go_simp; try with_reducible rfl
              simp only [Act.put, List.setIfInBounds_toArray, List.set]
              refine takeH (i := 7) (d := some 24) (v := ?_) rfl rfl (by kernel_rfl) (by kernel_rfl) (by kernel_rfl) (fun _ _ _ h => h) (by rfl) ?_ (by assumption) ?_
              rotate_left 1
              · intro w hSw; (try dsimp only at hSw); go_simp; try with_reducible rfl
              simp only [Act.put, List.setIfInBounds_toArray, List.set]
              refine takeH (i := 8) (d := some 25) (v := ?_) rfl rfl (by kernel_rfl) (by kernel_rfl) (by kernel_rfl) (fun _ _ _ h => h) (by rfl) ?_ (by assumption) ?_
              rotate_left 1
              · intro w hSw; (try dsimp only at hSw); go_simp; try with_reducible rfl
              simp only [Act.put, List.setIfInBounds_toArray, List.set]
              refine takeH (i := 9) (d := some 26) (v := ?_) rfl rfl (by kernel_rfl) (by kernel_rfl) (by kernel_rfl) (fun _ _ _ h => h) (by rfl) ?_ (by assumption) ?_
              rotate_left 1
              · intro w hSw; (try dsimp only at hSw); go_simp; try with_reducible rfl
              simp only [Act.put, List.setIfInBounds_toArray, List.set]
              refine wpAnyH_done (by kernel_rfl) ?_ _
              go_wp2_with fail
              refine HNC.out.mono ?_
              rintro e w2 ⟨rfl, hb2⟩
              have HPA2 := Lib.hid (HPA.out.drew.later hb2)
              have HB2 := Lib.hid ((below_drew (Below.refl _ wA)).trans hb2)
              clear hb2
              go_wp2_with fail
              refine (HCP.out _).mono ?_
              rintro e w3 ⟨rfl, rfl⟩
              go_wp2_with fail
              refine (HPC.out _ HB2.out).mono ?_
              rintro e w4 ⟨rfl, hb4⟩
              rw [HPO.out]
              have HPA4 := Lib.hid (HPA2.out.later hb4)
              clear hb4
              have HFL := Lib.hid hfl
              clear hfl
              have r1 : w4.cell? ⟨R, 1, none⟩ = some (.int .i64 (n : Int)) := HPA4.out.r1
              have f1 : w4.frozen? ⟨R, 1, none⟩ = false := Lib.frozen_of_heap HPA4.out.r 1
              rcases hed : editsF X (X.length + 1) (n + 1) (-1) with ⟨E, n2, b⟩
              have hn2 : n + 1 ≤ n2 := by have := (editsF_said HLned.out (X.length + 1) (n + 1) (-1)).1; rw [hed] at this; exact this
              have hn2X : n2 ≤ X.length := by have := editsF_le (X := X) (X.length + 1) (n + 1) (-1) (by omega); rw [hed] at this; exact this
              have hfit := editsF_fits HLned.out (by omega) (X.length + 1) (n + 1) (-1) (by omega)
              rw [hed] at hfit
              dsimp only at hfit
              obtain ⟨w5, hw5⟩ : ∃ w5, (w4.setCell ⟨R, 1, none⟩ (.int .i64 ((n : Int) + 1))).alloc (.cells #[.bool false] 4) = w5 := ⟨_, rfl⟩
              obtain ⟨Bd, hBd⟩ : ∃ Bd, w4.heap.size = Bd := ⟨_, rfl⟩
              have hRlt : R < w4.heap.size := (Array.getElem?_eq_some_iff.1 HPA4.out.r).1
              have h4r : (w4.setCell ⟨R, 1, none⟩ (.int .i64 ((n : Int) + 1))).heap[R]? = some (.cells #[.slice la XL lc, .int .i64 ((n : Int) + 1)] 67 (0, 0)) := by
                have := HPA4.out.r
                simp [World.setCell, Array.getElem?_modify, this]
              have h5b : Below w4.heap.size (w4.setCell ⟨R, 1, none⟩ (.int .i64 ((n : Int) + 1))) w5 := by
                rw [← hw5]
                exact (Below.refl _ _).alloc (by simp [World.setCell]) _
              have h5r : w5.heap[R]? = some (.cells #[.slice la XL lc, .int .i64 ((n + 1 : Nat) : Int)] 67 (0, 0)) := (h5b.block R hRlt).trans h4r
              have h5d : w5.heap[Bd]? = some (.cells #[.bool false] 4 (0, 0)) := by
                rw [← hw5, ← hBd]
                have := World.alloc_heap_new (w4.setCell ⟨R, 1, none⟩ (.int .i64 ((n : Int) + 1))) (.cells #[.bool false] 4)
                rw [show (w4.setCell ⟨R, 1, none⟩ (.int .i64 ((n : Int) + 1))).heap.size = w4.heap.size by simp [World.setCell]] at this
                exact this
              have hW0R : W0.heap.size ≤ R := by rw [HR.out]; exact Nat.le_refl _
              have h5low : Below W0.heap.size W0 w5 := (HPA4.out.low.setCell (p := ⟨R, 1, none⟩) hW0R _).trans (h5b.mono HPA4.out.low.size)
              have h5out : OutAt R w5 (.slice ra L rc) out := (HPA4.out.out_.set (o := 1) HPA4.out.r (by decide) (by decide) _).later (by
                have : (w4.setCell ⟨R, 1, none⟩ (.int .i64 ((n : Int) + 1))).heap.size = w4.heap.size := by simp [World.setCell]
                rw [this]; exact h5b)
              have hW0B : W0.heap.size ≤ Bd := by rw [← hBd]; exact HPA4.out.low.size
              have hga := gather_any R Bd W0 (.slice la XL lc) X ml HS.out hW0R hW0B (by omega) (n + 1) (by omega) (by rw [hed]; exact Nat.le_trans hfit.1 (by omega)) w5 h5low h5r h5d
              rw [hed] at hga
              dsimp only at hga
              have HGA := Lib.hid hga
              have HED := Lib.hid hed
              have HFIT := Lib.hid hfit
              have H5R := Lib.hid h5r
              have H5D := Lib.hid h5d
              have H5O := Lib.hid h5out
              have HW5 := Lib.hid hw5
              have HBD := Lib.hid hBd
              clear hga hed hfit h5r h5d h5out h5low h5b h4r hw5 hBd
              go_wp2_with fail
              rw [HW5.out, HBD.out]
              refine (makes_any R Bd w5).mono ?_
              rintro e w6 ⟨rfl, rfl⟩
              go_wp2_with fail
              refine HGA.out.mono ?_
              rintro e w7 ⟨ev, rfl, hrow, hst, h7r, h7d, h7low⟩
              have h7out : OutAt R w7 (.slice ra L rc) out := H5O.out.steps hst H5R.out H5D.out (by decide) (by decide) (by decide) (by decide)
              obtain ⟨EL, hEL⟩ : ∃ EL, E.length = EL := ⟨_, rfl⟩
              obtain ⟨ea, ec, hev⟩ : ∃ ea ec, ev = .slice ea EL ec := by
                rcases hrow.2 with ⟨rfl, h0⟩ | ⟨gg, cap, cur, rfl, _⟩
                · exact ⟨none, 0, by rw [← hEL, h0]⟩
                · exact ⟨_, _, by rw [← hEL]⟩
              subst hev
              have hw5s : R ≤ w5.heap.size := by have := (Array.getElem?_eq_some_iff.1 H5R.out).1; omega
              obtain ⟨w8, hw8⟩ : ∃ w8, w7.alloc (.cells #[.string nm, .slice ea EL ec] 44) = w8 := ⟨_, rfl⟩
              obtain ⟨N, hN⟩ : ∃ N, w7.heap.size = N := ⟨_, rfl⟩
              have h8b : Below w7.heap.size w7 w8 := by rw [← hw8]; exact (Below.refl _ w7).alloc (Nat.le_refl _) _
              have h8n : w8.heap[N]? = some (.cells #[.string nm, .slice ea EL ec] 44 (0, 0)) := by rw [← hw8, ← hN]; exact World.alloc_heap_new w7 _
              have h8r := (h8b.block R (Array.getElem?_eq_some_iff.1 h7r).1).trans h7r
              have h8d := (h8b.block Bd (Array.getElem?_eq_some_iff.1 h7d).1).trans h7d
              have H8L := Lib.hid (h7low.trans (h8b.mono h7low.size))
              have H8O := Lib.hid (h7out.later h8b)
              have H8E := Lib.hid (row_move (ownsRow_base hrow hw5s) (W' := w8) (fun k _ hk => h8b.block k (Array.getElem?_eq_some_iff.1 hk).1))
              have d0 : (w7.alloc (.cells #[.string nm, .slice ea EL ec] 44)).cell? ⟨Bd, 0, none⟩ = some (.bool b) := by rw [hw8, Lib.cell_of_heap h8d]; rfl
              have c0 : (w7.alloc (.cells #[.string nm, .slice ea EL ec] 44)).cell? ⟨w7.heap.size, 0, none⟩ = some (.string nm) := by rw [hw8, hN, Lib.cell_of_heap h8n]; rfl
              have c1 : (w7.alloc (.cells #[.string nm, .slice ea EL ec] 44)).cell? ⟨w7.heap.size, 1, none⟩ = some (.slice ea EL ec) := by rw [hw8, hN, Lib.cell_of_heap h8n]; rfl
              have y1 : w8.drew.cell? ⟨R, 1, none⟩ = some (.int .i64 (n2 : Int)) := by show w8.cell? _ = _; rw [Lib.cell_of_heap h8r]; rfl
              have H8R := Lib.hid h8r
              have HEL := Lib.hid hEL
              have HW8 := Lib.hid hw8
              have HN := Lib.hid hN
              clear hrow hst h7r h7d h7low h7out h8b h8n h8r h8d hEL hw8 hN hw5s
              cases b with
              | true =>
                have hpe : parseF s = ([], n2 + 1, 240) := by
                  rw [← HPG.out]
                  unfold parseGo
                  rw [if_neg hnge, if_pos HFL.out, HED.out]
                  dsimp only
                  rw [if_pos (by simp)]
                have HPE := Lib.hid hpe
                have hw7 : IntKind.i64.wrap ((n2 : Int) + 1) = (n2 : Int) + 1 := by rw [IntKind.wrap_i64]; omega
                clear hpe
                go_wp2_with fail
                rw [HW8.out]
                refine wp_region_held_drew (S := fun w' : World => w'.cell? ⟨R, 1, none⟩ = some (.int .i64 (n2 : Int))) (by kernel_rfl) y1 (fun hHeld => ?_)
                refine takeH (i := 0) (d := some 88) (v := ?_) rfl rfl (by kernel_rfl) (by kernel_rfl) (by kernel_rfl) (fun _ _ _ h => h) (by rfl) ?_ (by assumption) ?_
                rotate_left 1
                · intro w hSw; (try dsimp only at hSw); go_simp; try with_reducible rfl
                simp only [Act.put, List.setIfInBounds_toArray, List.set]
                refine takeH (i := 1) (d := some 89) (v := ?_) rfl rfl (by kernel_rfl) (by kernel_rfl) (by kernel_rfl) (fun _ _ _ h => h) (by rfl) ?_ (by assumption) ?_
                rotate_left 1
                · intro w hSw; (try dsimp only at hSw); go_simp; try with_reducible rfl
                simp only [Act.put, List.setIfInBounds_toArray, List.set]
                refine takeH (i := 2) (d := some 90) (v := ?_) rfl rfl (by kernel_rfl) (by kernel_rfl) (by kernel_rfl) (fun _ _ _ h => h) (by rfl) ?_ (by assumption) ?_
                rotate_left 1
                · intro w hSw; (try dsimp only at hSw); go_simp; try with_reducible rfl
                simp only [Act.put, List.setIfInBounds_toArray, List.set]
                refine takeH (i := 3) (d := some 91) (v := ?_) rfl rfl (by kernel_rfl) (by kernel_rfl) (by kernel_rfl) (fun _ _ _ h => h) (by rfl) ?_ (by assumption) ?_
                rotate_left 1
                · intro w hSw; (try dsimp only at hSw); go_simp; try with_reducible rfl
                simp only [Act.put, List.setIfInBounds_toArray, List.set]
                refine takeH (i := 4) (d := some 92) (v := ?_) rfl rfl (by kernel_rfl) (by kernel_rfl) (by kernel_rfl) (fun _ _ _ h => h) (by rfl) ?_ (by assumption) ?_
                rotate_left 1
                · intro w hSw; (try dsimp only at hSw); go_simp; try with_reducible rfl
                simp only [Act.put, List.setIfInBounds_toArray, List.set]
                refine takeH (i := 5) (d := some 2) (v := ?_) rfl rfl (by kernel_rfl) (by kernel_rfl) (by kernel_rfl) (fun _ _ _ h => h) (by rfl) ?_ (by assumption) ?_
                rotate_left 1
                · intro w hSw; (try dsimp only at hSw); go_simp; try with_reducible rfl
                simp only [Act.put, List.setIfInBounds_toArray, List.set]
                refine takeH (i := 6) (d := some 3) (v := ?_) rfl rfl (by kernel_rfl) (by kernel_rfl) (by kernel_rfl) (fun _ _ _ h => h) (by rfl) ?_ (by assumption) ?_
                rotate_left 1
                · intro w hSw; (try dsimp only at hSw); go_simp; try with_reducible rfl
                simp only [Act.put, List.setIfInBounds_toArray, List.set]
                refine takeH (i := 7) (d := some 4) (v := ?_) rfl rfl (by kernel_rfl) (by kernel_rfl) (by kernel_rfl) (fun _ _ _ h => h) (by rfl) ?_ (by assumption) ?_
                rotate_left 1
                · intro w hSw; (try dsimp only at hSw); go_simp; try with_reducible rfl
                simp only [Act.put, List.setIfInBounds_toArray, List.set]
                refine wpAnyH_done (by kernel_rfl) ?_ _
                go_wp2
                go_ret3
                exact ⟨.slice none 0 0, by rw [HPE.out]; rfl, by rw [HPE.out]; exact chgs_nil _, below_drew (HB0.out.trans (H8L.out.mono HB0.out.size))⟩
              | false =>
                by_cases hEL0 : EL = 0
                · have g0 : ((EL : Int) == 0) = true := by simp; omega
                  have hpe : parseF s = ([], n2 + 1, 240) := by
                    rw [← HPG.out]
                    unfold parseGo
                    rw [if_neg hnge, if_pos HFL.out, HED.out]
                    dsimp only
                    rw [if_pos (by simp only [Bool.false_or, decide_eq_true_eq]; rw [HEL.out]; exact hEL0)]
                  have HPE := Lib.hid hpe
                  have hw7 : IntKind.i64.wrap ((n2 : Int) + 1) = (n2 : Int) + 1 := by rw [IntKind.wrap_i64]; omega
                  clear hpe hEL0
                  go_wp2_with fail
                  rw [HW8.out]
                  refine wp_region_held_drew (S := fun w' : World => w'.cell? ⟨R, 1, none⟩ = some (.int .i64 (n2 : Int))) (by kernel_rfl) y1 (fun hHeld => ?_)
                  refine takeH (i := 0) (d := some 88) (v := ?_) rfl rfl (by kernel_rfl) (by kernel_rfl) (by kernel_rfl) (fun _ _ _ h => h) (by rfl) ?_ (by assumption) ?_
                  rotate_left 1
                  · intro w hSw; (try dsimp only at hSw); go_simp; try with_reducible rfl
                  simp only [Act.put, List.setIfInBounds_toArray, List.set]
                  refine takeH (i := 1) (d := some 89) (v := ?_) rfl rfl (by kernel_rfl) (by kernel_rfl) (by kernel_rfl) (fun _ _ _ h => h) (by rfl) ?_ (by assumption) ?_
                  rotate_left 1
                  · intro w hSw; (try dsimp only at hSw); go_simp; try with_reducible rfl
                  simp only [Act.put, List.setIfInBounds_toArray, List.set]
                  refine takeH (i := 2) (d := some 90) (v := ?_) rfl rfl (by kernel_rfl) (by kernel_rfl) (by kernel_rfl) (fun _ _ _ h => h) (by rfl) ?_ (by assumption) ?_
                  rotate_left 1
                  · intro w hSw; (try dsimp only at hSw); go_simp; try with_reducible rfl
                  simp only [Act.put, List.setIfInBounds_toArray, List.set]
                  refine takeH (i := 3) (d := some 91) (v := ?_) rfl rfl (by kernel_rfl) (by kernel_rfl) (by kernel_rfl) (fun _ _ _ h => h) (by rfl) ?_ (by assumption) ?_
                  rotate_left 1
                  · intro w hSw; (try dsimp only at hSw); go_simp; try with_reducible rfl
                  simp only [Act.put, List.setIfInBounds_toArray, List.set]
                  refine takeH (i := 4) (d := some 92) (v := ?_) rfl rfl (by kernel_rfl) (by kernel_rfl) (by kernel_rfl) (fun _ _ _ h => h) (by rfl) ?_ (by assumption) ?_
                  rotate_left 1
                  · intro w hSw; (try dsimp only at hSw); go_simp; try with_reducible rfl
                  simp only [Act.put, List.setIfInBounds_toArray, List.set]
                  refine takeH (i := 5) (d := some 2) (v := ?_) rfl rfl (by kernel_rfl) (by kernel_rfl) (by kernel_rfl) (fun _ _ _ h => h) (by rfl) ?_ (by assumption) ?_
                  rotate_left 1
                  · intro w hSw; (try dsimp only at hSw); go_simp; try with_reducible rfl
                  simp only [Act.put, List.setIfInBounds_toArray, List.set]
                  refine takeH (i := 6) (d := some 3) (v := ?_) rfl rfl (by kernel_rfl) (by kernel_rfl) (by kernel_rfl) (fun _ _ _ h => h) (by rfl) ?_ (by assumption) ?_
                  rotate_left 1
                  · intro w hSw; (try dsimp only at hSw); go_simp; try with_reducible rfl
                  simp only [Act.put, List.setIfInBounds_toArray, List.set]
                  refine takeH (i := 7) (d := some 4) (v := ?_) rfl rfl (by kernel_rfl) (by kernel_rfl) (by kernel_rfl) (fun _ _ _ h => h) (by rfl) ?_ (by assumption) ?_
                  rotate_left 1
                  · intro w hSw; (try dsimp only at hSw); go_simp; try with_reducible rfl
                  simp only [Act.put, List.setIfInBounds_toArray, List.set]
                  refine wpAnyH_done (by kernel_rfl) ?_ _
                  go_wp2
                  go_ret3
                  exact ⟨.slice none 0 0, by rw [HPE.out]; rfl, by rw [HPE.out]; exact chgs_nil _, below_drew (HB0.out.trans (H8L.out.mono HB0.out.size))⟩
                · have g0 : ((EL : Int) == 0) = false := by simp; omega
                  have hpe : parseGo X g n2 (out ++ [⟨nm, E⟩]) = parseF s := by
                    rw [← HPG.out]
                    conv => rhs; unfold parseGo
                    rw [if_neg hnge, if_pos HFL.out, HED.out]
                    dsimp only
                    rw [if_neg (by simp only [Bool.false_or, decide_eq_true_eq]; rw [HEL.out]; omega), HNW.out, HNM.out]
                  have HPE := Lib.hid hpe
                  clear hpe hEL0
                  obtain ⟨xs, hr, hxs⟩ := H8O.out
                  have hnews : ∀ j u, [Value.string nm, .slice ea EL ec][j]? = some u → (w8.alloc (.cells #[.string nm, .slice ea EL ec] 44)).cell? ((⟨w8.heap.size, 0, none⟩ : Addr).add j) = some u := fun j u hj => by
                    have e2 : (⟨w8.heap.size, 0, none⟩ : Addr).add j = ⟨w8.heap.size, j, none⟩ := by unfold Addr.add; split <;> simp_all
                    rw [e2]
                    exact box_cell w8 _ _ _ _ (by simpa using hj)
                  have hr8 := (Below.refl w8.heap.size w8).alloc (Nat.le_refl _) (.cells #[.string nm, .slice ea EL ec] 44)
                  have hr2 : (w8.alloc (.cells #[.string nm, .slice ea EL ec] 44)).ownsRow R 44 2 (.slice ra L rc) L xs := by
                    have := row_move hr (W' := w8.alloc (.cells #[.string nm, .slice ea EL ec] 44)) (fun k _ hk => hr8.block k (Array.getElem?_eq_some_iff.1 hk).1)
                    rw [HL.out] at this
                    exact this
                  have hsz : R ≤ (w8.alloc (.cells #[.string nm, .slice ea EL ec] 44)).heap.size := by
                    have := (Array.getElem?_eq_some_iff.1 H8R.out).1
                    rw [World.size_alloc]; omega
                  have h7s : w7.heap.size + 1 = w8.heap.size := by rw [← HW8.out]; simp
                  have H7S := Lib.hid h7s
                  clear h7s
                  have hnews2 : ∀ j u, [Value.string nm, .slice ea EL ec][j]? = some u → ((w7.alloc (.cells #[.string nm, .slice ea EL ec] 44)).alloc (.cells #[.string nm, .slice ea EL ec] 44)).cell? ((⟨w7.heap.size + 1, 0, none⟩ : Addr).add j) = some u := by rw [HW8.out, H7S.out]; exact hnews
                  have hr22 : ((w7.alloc (.cells #[.string nm, .slice ea EL ec] 44)).alloc (.cells #[.string nm, .slice ea EL ec] 44)).ownsRow R 44 2 (.slice ra L rc) L xs := by rw [HW8.out]; exact hr2
                  have hsz2 : R ≤ ((w7.alloc (.cells #[.string nm, .slice ea EL ec] 44)).alloc (.cells #[.string nm, .slice ea EL ec] 44)).heap.size := by rw [HW8.out]; exact hsz
                  have HNEWS := Lib.hid hnews2
                  have HR2 := Lib.hid hr22
                  have HR0 := Lib.hid hr
                  have HXS := Lib.hid hxs
                  have HSZ := Lib.hid hsz2
                  have HR8 := Lib.hid hr8
                  clear hnews hr2 hr hxs hsz hr8 hnews2 hr22 hsz2
                  go_wp2_with (at_builtin; refine wpList_append_own _ rfl _ _ 23 rfl R 44 i0 (.agg #[.string ⟨#[]⟩, .slice none 0 0]) 2 40 Tryd.underlying23 hi hz0 hz1 hz2 rfl (by decide) _ _ _ rfl HR2.out ⟨w7.heap.size + 1, 0, none⟩ 1 1 [.string nm, .slice ea EL ec] rfl rfl HNEWS.out (by simp [Value.oneCell']) (by unfold maxLen; omega) (by omega) HSZ.out ?_; intro v' w9 hown' hgrow _)
                  have hg0 : ((w7.alloc (.cells #[.string nm, .slice ea EL ec] 44)).alloc (.cells #[.string nm, .slice ea EL ec] 44)).grownBy w9 (Value.slice ra L rc).ownBlock := hgrow
                  rw [HW8.out] at hg0
                  have hm8 : ∀ {b' e' z' n' : Nat} {v : Value} {ys : List Value}, w8.ownsRow b' e' z' v n' ys → (w8.alloc (.cells #[.string nm, .slice ea EL ec] 44)).ownsRow b' e' z' v n' ys := fun h => row_move h (fun k _ hk => HR8.out.block k (Array.getElem?_eq_some_iff.1 hk).1)
                  have hown2 : w9.ownsRow R 44 2 v' (out.length + 1) (xs ++ [.string nm, .slice ea EL ec]) := by rw [HL.out]; exact hown'
                  have hrA := hm8 HR0.out
                  have ho9 : OutAt R w9 v' (out ++ [⟨nm, E⟩]) := OutAt.snoc (x := ⟨nm, E⟩) hrA (fun i y hi => by
                    obtain ⟨q1, e1, q2, q3⟩ := HXS.out i y hi
                    exact ⟨q1, e1, q2, hm8 q3⟩) (hm8 H8E.out) hown2 hg0
                  have h9r : w9.heap[R]? = some (.cells #[.slice la XL lc, .int .i64 (n2 : Int)] 67 (0, 0)) := by
                    have h1 := (HR8.out.block R (Array.getElem?_eq_some_iff.1 H8R.out).1).trans H8R.out
                    refine (hg0.block R (Array.getElem?_eq_some_iff.1 h1).1 ?_).trans h1
                    intro ej
                    rcases hrA.2 with ⟨h, _⟩ | ⟨gg, cap, cur, h, _, hgg, _⟩
                    · rw [h] at ej; simp [Value.ownBlock] at ej
                    · rw [h] at ej
                      obtain rfl : R = gg := by simpa [Value.ownBlock] using ej
                      rw [h1] at hgg
                      simp at hgg
                  have h9l : Below W0.heap.size W0 w9 := (H8L.out.trans (HR8.out.mono H8L.out.size)).grown hg0 (Nat.le_trans H8L.out.size HR8.out.size) (fun j ej => by
                    rcases hrA.2 with ⟨h, _⟩ | ⟨gg, cap, cur, h, hbg, _⟩
                    · rw [h] at ej; simp [Value.ownBlock] at ej
                    · rw [h] at ej
                      obtain rfl : gg = j := by simpa [Value.ownBlock] using ej
                      have := HR.out
                      omega)
                  have hp9 : PAt W0 w R R (.slice la XL lc) n2 (out ++ [⟨nm, E⟩]) v' w9 := ⟨h9l, ho9, h9r, fun y hy => by
                    rcases List.mem_append.1 hy with hy | hy
                    · exact HPA.out.fits y hy
                    · obtain rfl : y = ⟨nm, E⟩ := by simpa using hy
                      exact ⟨Nat.le_trans hnms (by omega), Nat.le_trans HFIT.out.1 (by omega), HFIT.out.2⟩, by rw [List.length_append, HL.out]; simp; omega⟩
                  refine ⟨⟨n2, g, _, _, by omega, hn2X, rfl, HPE.out, hp9⟩, ?_⟩
                  rw [hp9.nOf, HPA.out.nOf]
                  omega
            · have hL1 : 0 < L := by omega
              have gL : decide ((0 : Int) < (L : Int)) = true := by simp; omega
              obtain ⟨x, hx⟩ : ∃ x, out[L - 1]? = some x := ⟨out[L - 1]'(by have := HL.out; omega), List.getElem?_eq_getElem _⟩
              have hgl : out.getLast? = some x := by rw [List.getLast?_eq_getElem?, HL.out]; exact hx
              obtain ⟨gb, rfl, hxc⟩ : ∃ gb, ra = some ⟨gb, 0, none⟩ ∧ wA.cell? ⟨gb, (L - 1) * 2, none⟩ = some (.string x.name) := by
                obtain ⟨xs, hr, hxs⟩ := HPA.out.out_
                rcases hr.2 with ⟨h, h0⟩ | ⟨gb, cap, cur, h, _⟩
                · have := HL.out; omega
                · have hra : ra = some ⟨gb, 0, none⟩ := by
                    injection h with h1 _ _
                  subst hra
                  rw [h] at hr
                  exact ⟨gb, rfl, own_cell hr (hxs _ x hx).1⟩
              obtain ⟨q, hq⟩ : ∃ q, x.name = q := ⟨_, rfl⟩
              rw [hq] at hxc
              have HXC := Lib.hid hxc
              have HGL := Lib.hid hgl
              have HQ := Lib.hid hq
              have hwL : IntKind.i64.wrap ((L : Int) - 1) = ((L - 1 : Nat) : Int) := by rw [IntKind.wrap_i64]; omega
              clear hxc hgl hq hx
              cases hle : leB nm q with
              | true =>
                have hfl : nameLine (nowF X n) out = false := by have := HNL.out; rw [HPO.out, HGL.out] at this; rw [this]; simp [HQ.out, hle]
                have hrl : ∀ w, Sem.run Tryd.prog (binOp BinOp.leq 9 (Value.string nm) (Value.string q)) w = .ok (.bool true) w := fun w => by rw [run_leq, hle]
                clear hle
                have hpe : parseF s = ([], n + 1, 240) := by
                  rw [← HPG.out]
                  unfold parseGo
                  rw [if_neg hnge, if_neg (by rw [hfl]; simp)]
                have HPE := Lib.hid hpe
                clear hfl hpe
                go_wp2_with fail
                refine wp_region_held_drew (S := fun w' : World => w'.cell? ⟨R, 0, none⟩ = some (.slice la XL lc) ∧ w'.cell? ⟨R, 1, none⟩ = some (.int .i64 (n : Int))) (by kernel_rfl) ⟨y0, y1⟩ (fun hHeld => ?_)
                refine takeH (i := 0) (d := some 17) (v := ?_) rfl rfl (by kernel_rfl) (by kernel_rfl) (by kernel_rfl) (fun _ _ _ h => h) (by rfl) ?_ (by assumption) ?_
                rotate_left 1
                · intro w hSw; (try dsimp only at hSw); go_simp; try with_reducible rfl
                simp only [Act.put, List.setIfInBounds_toArray, List.set]
                refine takeH (i := 1) (d := some 18) (v := ?_) rfl rfl (by kernel_rfl) (by kernel_rfl) (by kernel_rfl) (fun _ _ _ h => h) (by rfl) ?_ (by assumption) ?_
                rotate_left 1
                · intro w hSw; (try dsimp only at hSw); go_simp; try with_reducible rfl
                simp only [Act.put, List.setIfInBounds_toArray, List.set]
                refine takeH (i := 2) (d := some 19) (v := ?_) rfl rfl (by kernel_rfl) (by kernel_rfl) (by kernel_rfl) (fun _ _ _ h => h) (by rfl) ?_ (by assumption) ?_
                rotate_left 1
                · intro w hSw; (try dsimp only at hSw); go_simp; try with_reducible rfl
                simp only [Act.put, List.setIfInBounds_toArray, List.set]
                refine takeH (i := 3) (d := some 20) (v := ?_) rfl rfl (by kernel_rfl) (by kernel_rfl) (by kernel_rfl) (fun _ _ _ h => h) (by rfl) ?_ (by assumption) ?_
                rotate_left 1
                · intro w hSw; (try dsimp only at hSw); go_simp; try with_reducible rfl
                simp only [Act.put, List.setIfInBounds_toArray, List.set]
                refine takeH (i := 4) (d := some 21) (v := ?_) rfl rfl (by kernel_rfl) (by kernel_rfl) (by kernel_rfl) (fun _ _ _ h => h) (by rfl) ?_ (by assumption) ?_
                rotate_left 1
                · intro w hSw; (try dsimp only at hSw); go_simp; try with_reducible rfl
                simp only [Act.put, List.setIfInBounds_toArray, List.set]
                refine takeH (i := 5) (d := some 22) (v := ?_) rfl rfl (by kernel_rfl) (by kernel_rfl) (by kernel_rfl) (fun _ _ _ h => h) (by rfl) ?_ (by assumption) ?_
                rotate_left 1
                · intro w hSw; (try dsimp only at hSw); go_simp; try with_reducible rfl
                simp only [Act.put, List.setIfInBounds_toArray, List.set]
                refine takeH (i := 6) (d := some 23) (v := ?_) rfl rfl (by kernel_rfl) (by kernel_rfl) (by kernel_rfl) (fun _ _ _ h => h) (by rfl) ?_ (by assumption) ?_
                rotate_left 1
                · intro w hSw; (try dsimp only at hSw); go_simp; try with_reducible rfl
                simp only [Act.put, List.setIfInBounds_toArray, List.set]
                refine takeH (i := 7) (d := some 24) (v := ?_) rfl rfl (by kernel_rfl) (by kernel_rfl) (by kernel_rfl) (fun _ _ _ h => h) (by rfl) ?_ (by assumption) ?_
                rotate_left 1
                · intro w hSw; (try dsimp only at hSw); go_simp; try with_reducible rfl
                simp only [Act.put, List.setIfInBounds_toArray, List.set]
                refine takeH (i := 8) (d := some 25) (v := ?_) rfl rfl (by kernel_rfl) (by kernel_rfl) (by kernel_rfl) (fun _ _ _ h => h) (by rfl) ?_ (by assumption) ?_
                rotate_left 1
                · intro w hSw; (try dsimp only at hSw); go_simp; try with_reducible rfl
                simp only [Act.put, List.setIfInBounds_toArray, List.set]
                refine takeH (i := 9) (d := some 26) (v := ?_) rfl rfl (by kernel_rfl) (by kernel_rfl) (by kernel_rfl) (fun _ _ _ h => h) (by rfl) ?_ (by assumption) ?_
                rotate_left 1
                · intro w hSw; (try dsimp only at hSw); go_simp; try with_reducible rfl
                simp only [Act.put, List.setIfInBounds_toArray, List.set]
                refine wpAnyH_done (by kernel_rfl) ?_ _
                go_wp2_with fail
                refine HNC.out.mono ?_
                rintro e w2 ⟨rfl, hb2⟩
                have HPA2 := Lib.hid (HPA.out.drew.later hb2)
                have HB2 := Lib.hid ((below_drew (Below.refl _ wA)).trans hb2)
                clear hb2
                go_wp2_with fail
                refine (HCP.out _).mono ?_
                rintro e w3 ⟨rfl, rfl⟩
                go_wp2_with fail
                refine (HPC.out _ HB2.out).mono ?_
                rintro e w4 ⟨rfl, hb4⟩
                rw [HPO.out]
                have HPA4 := Lib.hid (HPA2.out.later hb4)
                have xc : w4.cell? ⟨gb, (L - 1) * 2, none⟩ = some (.string q) := cell_later hb4 (cell_later HB2.out HXC.out)
                clear hb4
                go_wp2_with fail
                have y1 : w4.drew.cell? ⟨R, 1, none⟩ = some (.int .i64 (n : Int)) := HPA4.out.r1
                have hw7 : IntKind.i64.wrap ((n : Int) + 1) = (n : Int) + 1 := by rw [IntKind.wrap_i64]; omega
                refine wp_region_held_drew (S := fun w' : World => w'.cell? ⟨R, 1, none⟩ = some (.int .i64 (n : Int))) (by kernel_rfl) y1 (fun hHeld => ?_)
                refine takeH (i := 0) (d := some 64) (v := ?_) rfl rfl (by kernel_rfl) (by kernel_rfl) (by kernel_rfl) (fun _ _ _ h => h) (by rfl) ?_ (by assumption) ?_
                rotate_left 1
                · intro w hSw; (try dsimp only at hSw); go_simp; try with_reducible rfl
                simp only [Act.put, List.setIfInBounds_toArray, List.set]
                refine takeH (i := 1) (d := some 65) (v := ?_) rfl rfl (by kernel_rfl) (by kernel_rfl) (by kernel_rfl) (fun _ _ _ h => h) (by rfl) ?_ (by assumption) ?_
                rotate_left 1
                · intro w hSw; (try dsimp only at hSw); go_simp; try with_reducible rfl
                simp only [Act.put, List.setIfInBounds_toArray, List.set]
                refine takeH (i := 2) (d := some 66) (v := ?_) rfl rfl (by kernel_rfl) (by kernel_rfl) (by kernel_rfl) (fun _ _ _ h => h) (by rfl) ?_ (by assumption) ?_
                rotate_left 1
                · intro w hSw; (try dsimp only at hSw); go_simp; try with_reducible rfl
                simp only [Act.put, List.setIfInBounds_toArray, List.set]
                refine takeH (i := 3) (d := some 67) (v := ?_) rfl rfl (by kernel_rfl) (by kernel_rfl) (by kernel_rfl) (fun _ _ _ h => h) (by rfl) ?_ (by assumption) ?_
                rotate_left 1
                · intro w hSw; (try dsimp only at hSw); go_simp; try with_reducible rfl
                simp only [Act.put, List.setIfInBounds_toArray, List.set]
                refine takeH (i := 4) (d := some 68) (v := ?_) rfl rfl (by kernel_rfl) (by kernel_rfl) (by kernel_rfl) (fun _ _ _ h => h) (by rfl) ?_ (by assumption) ?_
                rotate_left 1
                · intro w hSw; (try dsimp only at hSw); go_simp; try with_reducible rfl
                simp only [Act.put, List.setIfInBounds_toArray, List.set]
                refine takeH (i := 5) (d := some 2) (v := ?_) rfl rfl (by kernel_rfl) (by kernel_rfl) (by kernel_rfl) (fun _ _ _ h => h) (by rfl) ?_ (by assumption) ?_
                rotate_left 1
                · intro w hSw; (try dsimp only at hSw); go_simp; try with_reducible rfl
                simp only [Act.put, List.setIfInBounds_toArray, List.set]
                refine takeH (i := 6) (d := some 3) (v := ?_) rfl rfl (by kernel_rfl) (by kernel_rfl) (by kernel_rfl) (fun _ _ _ h => h) (by rfl) ?_ (by assumption) ?_
                rotate_left 1
                · intro w hSw; (try dsimp only at hSw); go_simp; try with_reducible rfl
                simp only [Act.put, List.setIfInBounds_toArray, List.set]
                refine takeH (i := 7) (d := some 4) (v := ?_) rfl rfl (by kernel_rfl) (by kernel_rfl) (by kernel_rfl) (fun _ _ _ h => h) (by rfl) ?_ (by assumption) ?_
                rotate_left 1
                · intro w hSw; (try dsimp only at hSw); go_simp; try with_reducible rfl
                simp only [Act.put, List.setIfInBounds_toArray, List.set]
                refine wpAnyH_done (by kernel_rfl) ?_ _
                go_wp2
                go_ret3
                exact ⟨.slice none 0 0, by rw [HPE.out]; rfl, by rw [HPE.out]; exact chgs_nil _, below_drew (HB0.out.trans (HPA4.out.low.mono HB0.out.size))⟩
              | false =>
                have hfl : nameLine (nowF X n) out = true := by have := HNL.out; rw [HPO.out, HGL.out] at this; rw [this]; simp [HQ.out, hle]
                have hrl : ∀ w, Sem.run Tryd.prog (binOp BinOp.leq 9 (Value.string nm) (Value.string q)) w = .ok (.bool false) w := fun w => by rw [run_leq, hle]
                clear hle
                go_wp2_with fail
                refine wp_region_held_drew (S := fun w' : World => w'.cell? ⟨R, 0, none⟩ = some (.slice la XL lc) ∧ w'.cell? ⟨R, 1, none⟩ = some (.int .i64 (n : Int))) (by kernel_rfl) ⟨y0, y1⟩ (fun hHeld => ?_)
                refine takeH (i := 0) (d := some 17) (v := ?_) rfl rfl (by kernel_rfl) (by kernel_rfl) (by kernel_rfl) (fun _ _ _ h => h) (by rfl) ?_ (by assumption) ?_
                rotate_left 1
                · intro w hSw; (try dsimp only at hSw); go_simp; try with_reducible rfl
                simp only [Act.put, List.setIfInBounds_toArray, List.set]
                refine takeH (i := 1) (d := some 18) (v := ?_) rfl rfl (by kernel_rfl) (by kernel_rfl) (by kernel_rfl) (fun _ _ _ h => h) (by rfl) ?_ (by assumption) ?_
                rotate_left 1
                · intro w hSw; (try dsimp only at hSw); go_simp; try with_reducible rfl
                simp only [Act.put, List.setIfInBounds_toArray, List.set]
                refine takeH (i := 2) (d := some 19) (v := ?_) rfl rfl (by kernel_rfl) (by kernel_rfl) (by kernel_rfl) (fun _ _ _ h => h) (by rfl) ?_ (by assumption) ?_
                rotate_left 1
                · intro w hSw; (try dsimp only at hSw); go_simp; try with_reducible rfl
                simp only [Act.put, List.setIfInBounds_toArray, List.set]
                refine takeH (i := 3) (d := some 20) (v := ?_) rfl rfl (by kernel_rfl) (by kernel_rfl) (by kernel_rfl) (fun _ _ _ h => h) (by rfl) ?_ (by assumption) ?_
                rotate_left 1
                · intro w hSw; (try dsimp only at hSw); go_simp; try with_reducible rfl
                simp only [Act.put, List.setIfInBounds_toArray, List.set]
                refine takeH (i := 4) (d := some 21) (v := ?_) rfl rfl (by kernel_rfl) (by kernel_rfl) (by kernel_rfl) (fun _ _ _ h => h) (by rfl) ?_ (by assumption) ?_
                rotate_left 1
                · intro w hSw; (try dsimp only at hSw); go_simp; try with_reducible rfl
                simp only [Act.put, List.setIfInBounds_toArray, List.set]
                refine takeH (i := 5) (d := some 22) (v := ?_) rfl rfl (by kernel_rfl) (by kernel_rfl) (by kernel_rfl) (fun _ _ _ h => h) (by rfl) ?_ (by assumption) ?_
                rotate_left 1
                · intro w hSw; (try dsimp only at hSw); go_simp; try with_reducible rfl
                simp only [Act.put, List.setIfInBounds_toArray, List.set]
                refine takeH (i := 6) (d := some 23) (v := ?_) rfl rfl (by kernel_rfl) (by kernel_rfl) (by kernel_rfl) (fun _ _ _ h => h) (by rfl) ?_ (by assumption) ?_
                rotate_left 1
                · intro w hSw; (try dsimp only at hSw); go_simp; try with_reducible rfl
                simp only [Act.put, List.setIfInBounds_toArray, List.set]
                refine takeH (i := 7) (d := some 24) (v := ?_) rfl rfl (by kernel_rfl) (by kernel_rfl) (by kernel_rfl) (fun _ _ _ h => h) (by rfl) ?_ (by assumption) ?_
                rotate_left 1
                · intro w hSw; (try dsimp only at hSw); go_simp; try with_reducible rfl
                simp only [Act.put, List.setIfInBounds_toArray, List.set]
                refine takeH (i := 8) (d := some 25) (v := ?_) rfl rfl (by kernel_rfl) (by kernel_rfl) (by kernel_rfl) (fun _ _ _ h => h) (by rfl) ?_ (by assumption) ?_
                rotate_left 1
                · intro w hSw; (try dsimp only at hSw); go_simp; try with_reducible rfl
                simp only [Act.put, List.setIfInBounds_toArray, List.set]
                refine takeH (i := 9) (d := some 26) (v := ?_) rfl rfl (by kernel_rfl) (by kernel_rfl) (by kernel_rfl) (fun _ _ _ h => h) (by rfl) ?_ (by assumption) ?_
                rotate_left 1
                · intro w hSw; (try dsimp only at hSw); go_simp; try with_reducible rfl
                simp only [Act.put, List.setIfInBounds_toArray, List.set]
                refine wpAnyH_done (by kernel_rfl) ?_ _
                go_wp2_with fail
                refine HNC.out.mono ?_
                rintro e w2 ⟨rfl, hb2⟩
                have HPA2 := Lib.hid (HPA.out.drew.later hb2)
                have HB2 := Lib.hid ((below_drew (Below.refl _ wA)).trans hb2)
                clear hb2
                go_wp2_with fail
                refine (HCP.out _).mono ?_
                rintro e w3 ⟨rfl, rfl⟩
                go_wp2_with fail
                refine (HPC.out _ HB2.out).mono ?_
                rintro e w4 ⟨rfl, hb4⟩
                rw [HPO.out]
                have HPA4 := Lib.hid (HPA2.out.later hb4)
                have xc : w4.cell? ⟨gb, (L - 1) * 2, none⟩ = some (.string q) := cell_later hb4 (cell_later HB2.out HXC.out)
                clear hb4
                have HFL := Lib.hid hfl
                clear hfl
                have r1 : w4.cell? ⟨R, 1, none⟩ = some (.int .i64 (n : Int)) := HPA4.out.r1
                have f1 : w4.frozen? ⟨R, 1, none⟩ = false := Lib.frozen_of_heap HPA4.out.r 1
                rcases hed : editsF X (X.length + 1) (n + 1) (-1) with ⟨E, n2, b⟩
                have hn2 : n + 1 ≤ n2 := by have := (editsF_said HLned.out (X.length + 1) (n + 1) (-1)).1; rw [hed] at this; exact this
                have hn2X : n2 ≤ X.length := by have := editsF_le (X := X) (X.length + 1) (n + 1) (-1) (by omega); rw [hed] at this; exact this
                have hfit := editsF_fits HLned.out (by omega) (X.length + 1) (n + 1) (-1) (by omega)
                rw [hed] at hfit
                dsimp only at hfit
                obtain ⟨w5, hw5⟩ : ∃ w5, (w4.setCell ⟨R, 1, none⟩ (.int .i64 ((n : Int) + 1))).alloc (.cells #[.bool false] 4) = w5 := ⟨_, rfl⟩
                obtain ⟨Bd, hBd⟩ : ∃ Bd, w4.heap.size = Bd := ⟨_, rfl⟩
                have hRlt : R < w4.heap.size := (Array.getElem?_eq_some_iff.1 HPA4.out.r).1
                have h4r : (w4.setCell ⟨R, 1, none⟩ (.int .i64 ((n : Int) + 1))).heap[R]? = some (.cells #[.slice la XL lc, .int .i64 ((n : Int) + 1)] 67 (0, 0)) := by
                  have := HPA4.out.r
                  simp [World.setCell, Array.getElem?_modify, this]
                have h5b : Below w4.heap.size (w4.setCell ⟨R, 1, none⟩ (.int .i64 ((n : Int) + 1))) w5 := by
                  rw [← hw5]
                  exact (Below.refl _ _).alloc (by simp [World.setCell]) _
                have h5r : w5.heap[R]? = some (.cells #[.slice la XL lc, .int .i64 ((n + 1 : Nat) : Int)] 67 (0, 0)) := (h5b.block R hRlt).trans h4r
                have h5d : w5.heap[Bd]? = some (.cells #[.bool false] 4 (0, 0)) := by
                  rw [← hw5, ← hBd]
                  have := World.alloc_heap_new (w4.setCell ⟨R, 1, none⟩ (.int .i64 ((n : Int) + 1))) (.cells #[.bool false] 4)
                  rw [show (w4.setCell ⟨R, 1, none⟩ (.int .i64 ((n : Int) + 1))).heap.size = w4.heap.size by simp [World.setCell]] at this
                  exact this
                have hW0R : W0.heap.size ≤ R := by rw [HR.out]; exact Nat.le_refl _
                have h5low : Below W0.heap.size W0 w5 := (HPA4.out.low.setCell (p := ⟨R, 1, none⟩) hW0R _).trans (h5b.mono HPA4.out.low.size)
                have h5out : OutAt R w5 (.slice (some ⟨gb, 0, none⟩) L rc) out := (HPA4.out.out_.set (o := 1) HPA4.out.r (by decide) (by decide) _).later (by
                  have : (w4.setCell ⟨R, 1, none⟩ (.int .i64 ((n : Int) + 1))).heap.size = w4.heap.size := by simp [World.setCell]
                  rw [this]; exact h5b)
                have hW0B : W0.heap.size ≤ Bd := by rw [← hBd]; exact HPA4.out.low.size
                have hga := gather_any R Bd W0 (.slice la XL lc) X ml HS.out hW0R hW0B (by omega) (n + 1) (by omega) (by rw [hed]; exact Nat.le_trans hfit.1 (by omega)) w5 h5low h5r h5d
                rw [hed] at hga
                dsimp only at hga
                have HGA := Lib.hid hga
                have HED := Lib.hid hed
                have HFIT := Lib.hid hfit
                have H5R := Lib.hid h5r
                have H5D := Lib.hid h5d
                have H5O := Lib.hid h5out
                have HW5 := Lib.hid hw5
                have HBD := Lib.hid hBd
                clear hga hed hfit h5r h5d h5out h5low h5b h4r hw5 hBd
                go_wp2_with fail
                rw [HW5.out, HBD.out]
                refine (makes_any R Bd w5).mono ?_
                rintro e w6 ⟨rfl, rfl⟩
                go_wp2_with fail
                refine HGA.out.mono ?_
                rintro e w7 ⟨ev, rfl, hrow, hst, h7r, h7d, h7low⟩
                have h7out : OutAt R w7 (.slice (some ⟨gb, 0, none⟩) L rc) out := H5O.out.steps hst H5R.out H5D.out (by decide) (by decide) (by decide) (by decide)
                obtain ⟨EL, hEL⟩ : ∃ EL, E.length = EL := ⟨_, rfl⟩
                obtain ⟨ea, ec, hev⟩ : ∃ ea ec, ev = .slice ea EL ec := by
                  rcases hrow.2 with ⟨rfl, h0⟩ | ⟨gg, cap, cur, rfl, _⟩
                  · exact ⟨none, 0, by rw [← hEL, h0]⟩
                  · exact ⟨_, _, by rw [← hEL]⟩
                subst hev
                have hw5s : R ≤ w5.heap.size := by have := (Array.getElem?_eq_some_iff.1 H5R.out).1; omega
                obtain ⟨w8, hw8⟩ : ∃ w8, w7.alloc (.cells #[.string nm, .slice ea EL ec] 44) = w8 := ⟨_, rfl⟩
                obtain ⟨N, hN⟩ : ∃ N, w7.heap.size = N := ⟨_, rfl⟩
                have h8b : Below w7.heap.size w7 w8 := by rw [← hw8]; exact (Below.refl _ w7).alloc (Nat.le_refl _) _
                have h8n : w8.heap[N]? = some (.cells #[.string nm, .slice ea EL ec] 44 (0, 0)) := by rw [← hw8, ← hN]; exact World.alloc_heap_new w7 _
                have h8r := (h8b.block R (Array.getElem?_eq_some_iff.1 h7r).1).trans h7r
                have h8d := (h8b.block Bd (Array.getElem?_eq_some_iff.1 h7d).1).trans h7d
                have H8L := Lib.hid (h7low.trans (h8b.mono h7low.size))
                have H8O := Lib.hid (h7out.later h8b)
                have H8E := Lib.hid (row_move (ownsRow_base hrow hw5s) (W' := w8) (fun k _ hk => h8b.block k (Array.getElem?_eq_some_iff.1 hk).1))
                have d0 : (w7.alloc (.cells #[.string nm, .slice ea EL ec] 44)).cell? ⟨Bd, 0, none⟩ = some (.bool b) := by rw [hw8, Lib.cell_of_heap h8d]; rfl
                have c0 : (w7.alloc (.cells #[.string nm, .slice ea EL ec] 44)).cell? ⟨w7.heap.size, 0, none⟩ = some (.string nm) := by rw [hw8, hN, Lib.cell_of_heap h8n]; rfl
                have c1 : (w7.alloc (.cells #[.string nm, .slice ea EL ec] 44)).cell? ⟨w7.heap.size, 1, none⟩ = some (.slice ea EL ec) := by rw [hw8, hN, Lib.cell_of_heap h8n]; rfl
                have y1 : w8.drew.cell? ⟨R, 1, none⟩ = some (.int .i64 (n2 : Int)) := by show w8.cell? _ = _; rw [Lib.cell_of_heap h8r]; rfl
                have H8R := Lib.hid h8r
                have HEL := Lib.hid hEL
                have HW8 := Lib.hid hw8
                have HN := Lib.hid hN
                clear hrow hst h7r h7d h7low h7out h8b h8n h8r h8d hEL hw8 hN hw5s
                cases b with
                | true =>
                  have hpe : parseF s = ([], n2 + 1, 240) := by
                    rw [← HPG.out]
                    unfold parseGo
                    rw [if_neg hnge, if_pos HFL.out, HED.out]
                    dsimp only
                    rw [if_pos (by simp)]
                  have HPE := Lib.hid hpe
                  have hw7 : IntKind.i64.wrap ((n2 : Int) + 1) = (n2 : Int) + 1 := by rw [IntKind.wrap_i64]; omega
                  clear hpe
                  go_wp2_with fail
                  rw [HW8.out]
                  refine wp_region_held_drew (S := fun w' : World => w'.cell? ⟨R, 1, none⟩ = some (.int .i64 (n2 : Int))) (by kernel_rfl) y1 (fun hHeld => ?_)
                  refine takeH (i := 0) (d := some 88) (v := ?_) rfl rfl (by kernel_rfl) (by kernel_rfl) (by kernel_rfl) (fun _ _ _ h => h) (by rfl) ?_ (by assumption) ?_
                  rotate_left 1
                  · intro w hSw; (try dsimp only at hSw); go_simp; try with_reducible rfl
                  simp only [Act.put, List.setIfInBounds_toArray, List.set]
                  refine takeH (i := 1) (d := some 89) (v := ?_) rfl rfl (by kernel_rfl) (by kernel_rfl) (by kernel_rfl) (fun _ _ _ h => h) (by rfl) ?_ (by assumption) ?_
                  rotate_left 1
                  · intro w hSw; (try dsimp only at hSw); go_simp; try with_reducible rfl
                  simp only [Act.put, List.setIfInBounds_toArray, List.set]
                  refine takeH (i := 2) (d := some 90) (v := ?_) rfl rfl (by kernel_rfl) (by kernel_rfl) (by kernel_rfl) (fun _ _ _ h => h) (by rfl) ?_ (by assumption) ?_
                  rotate_left 1
                  · intro w hSw; (try dsimp only at hSw); go_simp; try with_reducible rfl
                  simp only [Act.put, List.setIfInBounds_toArray, List.set]
                  refine takeH (i := 3) (d := some 91) (v := ?_) rfl rfl (by kernel_rfl) (by kernel_rfl) (by kernel_rfl) (fun _ _ _ h => h) (by rfl) ?_ (by assumption) ?_
                  rotate_left 1
                  · intro w hSw; (try dsimp only at hSw); go_simp; try with_reducible rfl
                  simp only [Act.put, List.setIfInBounds_toArray, List.set]
                  refine takeH (i := 4) (d := some 92) (v := ?_) rfl rfl (by kernel_rfl) (by kernel_rfl) (by kernel_rfl) (fun _ _ _ h => h) (by rfl) ?_ (by assumption) ?_
                  rotate_left 1
                  · intro w hSw; (try dsimp only at hSw); go_simp; try with_reducible rfl
                  simp only [Act.put, List.setIfInBounds_toArray, List.set]
                  refine takeH (i := 5) (d := some 2) (v := ?_) rfl rfl (by kernel_rfl) (by kernel_rfl) (by kernel_rfl) (fun _ _ _ h => h) (by rfl) ?_ (by assumption) ?_
                  rotate_left 1
                  · intro w hSw; (try dsimp only at hSw); go_simp; try with_reducible rfl
                  simp only [Act.put, List.setIfInBounds_toArray, List.set]
                  refine takeH (i := 6) (d := some 3) (v := ?_) rfl rfl (by kernel_rfl) (by kernel_rfl) (by kernel_rfl) (fun _ _ _ h => h) (by rfl) ?_ (by assumption) ?_
                  rotate_left 1
                  · intro w hSw; (try dsimp only at hSw); go_simp; try with_reducible rfl
                  simp only [Act.put, List.setIfInBounds_toArray, List.set]
                  refine takeH (i := 7) (d := some 4) (v := ?_) rfl rfl (by kernel_rfl) (by kernel_rfl) (by kernel_rfl) (fun _ _ _ h => h) (by rfl) ?_ (by assumption) ?_
                  rotate_left 1
                  · intro w hSw; (try dsimp only at hSw); go_simp; try with_reducible rfl
                  simp only [Act.put, List.setIfInBounds_toArray, List.set]
                  refine wpAnyH_done (by kernel_rfl) ?_ _
                  go_wp2
                  go_ret3
                  exact ⟨.slice none 0 0, by rw [HPE.out]; rfl, by rw [HPE.out]; exact chgs_nil _, below_drew (HB0.out.trans (H8L.out.mono HB0.out.size))⟩
                | false =>
                  by_cases hEL0 : EL = 0
                  · have g0 : ((EL : Int) == 0) = true := by simp; omega
                    have hpe : parseF s = ([], n2 + 1, 240) := by
                      rw [← HPG.out]
                      unfold parseGo
                      rw [if_neg hnge, if_pos HFL.out, HED.out]
                      dsimp only
                      rw [if_pos (by simp only [Bool.false_or, decide_eq_true_eq]; rw [HEL.out]; exact hEL0)]
                    have HPE := Lib.hid hpe
                    have hw7 : IntKind.i64.wrap ((n2 : Int) + 1) = (n2 : Int) + 1 := by rw [IntKind.wrap_i64]; omega
                    clear hpe hEL0
                    go_wp2_with fail
                    rw [HW8.out]
                    refine wp_region_held_drew (S := fun w' : World => w'.cell? ⟨R, 1, none⟩ = some (.int .i64 (n2 : Int))) (by kernel_rfl) y1 (fun hHeld => ?_)
                    refine takeH (i := 0) (d := some 88) (v := ?_) rfl rfl (by kernel_rfl) (by kernel_rfl) (by kernel_rfl) (fun _ _ _ h => h) (by rfl) ?_ (by assumption) ?_
                    rotate_left 1
                    · intro w hSw; (try dsimp only at hSw); go_simp; try with_reducible rfl
                    simp only [Act.put, List.setIfInBounds_toArray, List.set]
                    refine takeH (i := 1) (d := some 89) (v := ?_) rfl rfl (by kernel_rfl) (by kernel_rfl) (by kernel_rfl) (fun _ _ _ h => h) (by rfl) ?_ (by assumption) ?_
                    rotate_left 1
                    · intro w hSw; (try dsimp only at hSw); go_simp; try with_reducible rfl
                    simp only [Act.put, List.setIfInBounds_toArray, List.set]
                    refine takeH (i := 2) (d := some 90) (v := ?_) rfl rfl (by kernel_rfl) (by kernel_rfl) (by kernel_rfl) (fun _ _ _ h => h) (by rfl) ?_ (by assumption) ?_
                    rotate_left 1
                    · intro w hSw; (try dsimp only at hSw); go_simp; try with_reducible rfl
                    simp only [Act.put, List.setIfInBounds_toArray, List.set]
                    refine takeH (i := 3) (d := some 91) (v := ?_) rfl rfl (by kernel_rfl) (by kernel_rfl) (by kernel_rfl) (fun _ _ _ h => h) (by rfl) ?_ (by assumption) ?_
                    rotate_left 1
                    · intro w hSw; (try dsimp only at hSw); go_simp; try with_reducible rfl
                    simp only [Act.put, List.setIfInBounds_toArray, List.set]
                    refine takeH (i := 4) (d := some 92) (v := ?_) rfl rfl (by kernel_rfl) (by kernel_rfl) (by kernel_rfl) (fun _ _ _ h => h) (by rfl) ?_ (by assumption) ?_
                    rotate_left 1
                    · intro w hSw; (try dsimp only at hSw); go_simp; try with_reducible rfl
                    simp only [Act.put, List.setIfInBounds_toArray, List.set]
                    refine takeH (i := 5) (d := some 2) (v := ?_) rfl rfl (by kernel_rfl) (by kernel_rfl) (by kernel_rfl) (fun _ _ _ h => h) (by rfl) ?_ (by assumption) ?_
                    rotate_left 1
                    · intro w hSw; (try dsimp only at hSw); go_simp; try with_reducible rfl
                    simp only [Act.put, List.setIfInBounds_toArray, List.set]
                    refine takeH (i := 6) (d := some 3) (v := ?_) rfl rfl (by kernel_rfl) (by kernel_rfl) (by kernel_rfl) (fun _ _ _ h => h) (by rfl) ?_ (by assumption) ?_
                    rotate_left 1
                    · intro w hSw; (try dsimp only at hSw); go_simp; try with_reducible rfl
                    simp only [Act.put, List.setIfInBounds_toArray, List.set]
                    refine takeH (i := 7) (d := some 4) (v := ?_) rfl rfl (by kernel_rfl) (by kernel_rfl) (by kernel_rfl) (fun _ _ _ h => h) (by rfl) ?_ (by assumption) ?_
                    rotate_left 1
                    · intro w hSw; (try dsimp only at hSw); go_simp; try with_reducible rfl
                    simp only [Act.put, List.setIfInBounds_toArray, List.set]
                    refine wpAnyH_done (by kernel_rfl) ?_ _
                    go_wp2
                    go_ret3
                    exact ⟨.slice none 0 0, by rw [HPE.out]; rfl, by rw [HPE.out]; exact chgs_nil _, below_drew (HB0.out.trans (H8L.out.mono HB0.out.size))⟩
                  · have g0 : ((EL : Int) == 0) = false := by simp; omega
                    have hpe : parseGo X g n2 (out ++ [⟨nm, E⟩]) = parseF s := by
                      rw [← HPG.out]
                      conv => rhs; unfold parseGo
                      rw [if_neg hnge, if_pos HFL.out, HED.out]
                      dsimp only
                      rw [if_neg (by simp only [Bool.false_or, decide_eq_true_eq]; rw [HEL.out]; omega), HNW.out, HNM.out]
                    have HPE := Lib.hid hpe
                    clear hpe hEL0
                    obtain ⟨xs, hr, hxs⟩ := H8O.out
                    have hnews : ∀ j u, [Value.string nm, .slice ea EL ec][j]? = some u → (w8.alloc (.cells #[.string nm, .slice ea EL ec] 44)).cell? ((⟨w8.heap.size, 0, none⟩ : Addr).add j) = some u := fun j u hj => by
                      have e2 : (⟨w8.heap.size, 0, none⟩ : Addr).add j = ⟨w8.heap.size, j, none⟩ := by unfold Addr.add; split <;> simp_all
                      rw [e2]
                      exact box_cell w8 _ _ _ _ (by simpa using hj)
                    have hr8 := (Below.refl w8.heap.size w8).alloc (Nat.le_refl _) (.cells #[.string nm, .slice ea EL ec] 44)
                    have hr2 : (w8.alloc (.cells #[.string nm, .slice ea EL ec] 44)).ownsRow R 44 2 (.slice (some ⟨gb, 0, none⟩) L rc) L xs := by
                      have := row_move hr (W' := w8.alloc (.cells #[.string nm, .slice ea EL ec] 44)) (fun k _ hk => hr8.block k (Array.getElem?_eq_some_iff.1 hk).1)
                      rw [HL.out] at this
                      exact this
                    have hsz : R ≤ (w8.alloc (.cells #[.string nm, .slice ea EL ec] 44)).heap.size := by
                      have := (Array.getElem?_eq_some_iff.1 H8R.out).1
                      rw [World.size_alloc]; omega
                    have h7s : w7.heap.size + 1 = w8.heap.size := by rw [← HW8.out]; simp
                    have H7S := Lib.hid h7s
                    clear h7s
                    have hnews2 : ∀ j u, [Value.string nm, .slice ea EL ec][j]? = some u → ((w7.alloc (.cells #[.string nm, .slice ea EL ec] 44)).alloc (.cells #[.string nm, .slice ea EL ec] 44)).cell? ((⟨w7.heap.size + 1, 0, none⟩ : Addr).add j) = some u := by rw [HW8.out, H7S.out]; exact hnews
                    have hr22 : ((w7.alloc (.cells #[.string nm, .slice ea EL ec] 44)).alloc (.cells #[.string nm, .slice ea EL ec] 44)).ownsRow R 44 2 (.slice (some ⟨gb, 0, none⟩) L rc) L xs := by rw [HW8.out]; exact hr2
                    have hsz2 : R ≤ ((w7.alloc (.cells #[.string nm, .slice ea EL ec] 44)).alloc (.cells #[.string nm, .slice ea EL ec] 44)).heap.size := by rw [HW8.out]; exact hsz
                    have HNEWS := Lib.hid hnews2
                    have HR2 := Lib.hid hr22
                    have HR0 := Lib.hid hr
                    have HXS := Lib.hid hxs
                    have HSZ := Lib.hid hsz2
                    have HR8 := Lib.hid hr8
                    clear hnews hr2 hr hxs hsz hr8 hnews2 hr22 hsz2
                    go_wp2_with (at_builtin; refine wpList_append_own _ rfl _ _ 23 rfl R 44 i0 (.agg #[.string ⟨#[]⟩, .slice none 0 0]) 2 40 Tryd.underlying23 hi hz0 hz1 hz2 rfl (by decide) _ _ _ rfl HR2.out ⟨w7.heap.size + 1, 0, none⟩ 1 1 [.string nm, .slice ea EL ec] rfl rfl HNEWS.out (by simp [Value.oneCell']) (by unfold maxLen; omega) (by omega) HSZ.out ?_; intro v' w9 hown' hgrow _)
                    have hg0 : ((w7.alloc (.cells #[.string nm, .slice ea EL ec] 44)).alloc (.cells #[.string nm, .slice ea EL ec] 44)).grownBy w9 (Value.slice (some ⟨gb, 0, none⟩) L rc).ownBlock := hgrow
                    rw [HW8.out] at hg0
                    have hm8 : ∀ {b' e' z' n' : Nat} {v : Value} {ys : List Value}, w8.ownsRow b' e' z' v n' ys → (w8.alloc (.cells #[.string nm, .slice ea EL ec] 44)).ownsRow b' e' z' v n' ys := fun h => row_move h (fun k _ hk => HR8.out.block k (Array.getElem?_eq_some_iff.1 hk).1)
                    have hown2 : w9.ownsRow R 44 2 v' (out.length + 1) (xs ++ [.string nm, .slice ea EL ec]) := by rw [HL.out]; exact hown'
                    have hrA := hm8 HR0.out
                    have ho9 : OutAt R w9 v' (out ++ [⟨nm, E⟩]) := OutAt.snoc (x := ⟨nm, E⟩) hrA (fun i y hi => by
                      obtain ⟨q1, e1, q2, q3⟩ := HXS.out i y hi
                      exact ⟨q1, e1, q2, hm8 q3⟩) (hm8 H8E.out) hown2 hg0
                    have h9r : w9.heap[R]? = some (.cells #[.slice la XL lc, .int .i64 (n2 : Int)] 67 (0, 0)) := by
                      have h1 := (HR8.out.block R (Array.getElem?_eq_some_iff.1 H8R.out).1).trans H8R.out
                      refine (hg0.block R (Array.getElem?_eq_some_iff.1 h1).1 ?_).trans h1
                      intro ej
                      rcases hrA.2 with ⟨h, _⟩ | ⟨gg, cap, cur, h, _, hgg, _⟩
                      · rw [h] at ej; simp [Value.ownBlock] at ej
                      · rw [h] at ej
                        obtain rfl : R = gg := by simpa [Value.ownBlock] using ej
                        rw [h1] at hgg
                        simp at hgg
                    have h9l : Below W0.heap.size W0 w9 := (H8L.out.trans (HR8.out.mono H8L.out.size)).grown hg0 (Nat.le_trans H8L.out.size HR8.out.size) (fun j ej => by
                      rcases hrA.2 with ⟨h, _⟩ | ⟨gg, cap, cur, h, hbg, _⟩
                      · rw [h] at ej; simp [Value.ownBlock] at ej
                      · rw [h] at ej
                        obtain rfl : gg = j := by simpa [Value.ownBlock] using ej
                        have := HR.out
                        omega)
                    have hp9 : PAt W0 w R R (.slice la XL lc) n2 (out ++ [⟨nm, E⟩]) v' w9 := ⟨h9l, ho9, h9r, fun y hy => by
                      rcases List.mem_append.1 hy with hy | hy
                      · exact HPA.out.fits y hy
                      · obtain rfl : y = ⟨nm, E⟩ := by simpa using hy
                        exact ⟨Nat.le_trans hnms (by omega), Nat.le_trans HFIT.out.1 (by omega), HFIT.out.2⟩, by rw [List.length_append, HL.out]; simp; omega⟩
                    refine ⟨⟨n2, g, _, _, by omega, hn2X, rfl, HPE.out, hp9⟩, ?_⟩
                    rw [hp9.nOf, HPA.out.nOf]
                    omega
    · have hge : X.length ≤ n := by have := HXL.out; omega
      have hpe : parseF s = (out, 0, 0) := by
        rw [← HPG.out]
        unfold parseGo
        rw [if_pos hge]
      have HPE := Lib.hid hpe
      have hch : ChgsAt wA rv out := HPA.out.out_.chgs (by have := HPA.out.len; omega) HPA.out.fits
      have hbl : Below w.heap.size w wA := HB0.out.trans (HPA.out.low.mono HB0.out.size)
      have HCH := Lib.hid hch
      have HBL := Lib.hid hbl
      clear hpe hch hbl
      go_wp2_with fail
      refine wp_region_held_drew (S := fun w' : World => w'.cell? ⟨R, 0, none⟩ = some (.slice la XL lc) ∧ w'.cell? ⟨R, 1, none⟩ = some (.int .i64 (n : Int))) (by kernel_rfl) ⟨y0, y1⟩ (fun hHeld => ?_)
      refine takeH (i := 0) (d := some 17) (v := ?_) rfl rfl (by kernel_rfl) (by kernel_rfl) (by kernel_rfl) (fun _ _ _ h => h) (by rfl) ?_ (by assumption) ?_
      rotate_left 1
      · intro w hSw; (try dsimp only at hSw); go_simp; try with_reducible rfl
      simp only [Act.put, List.setIfInBounds_toArray, List.set]
      refine takeH (i := 1) (d := some 18) (v := ?_) rfl rfl (by kernel_rfl) (by kernel_rfl) (by kernel_rfl) (fun _ _ _ h => h) (by rfl) ?_ (by assumption) ?_
      rotate_left 1
      · intro w hSw; (try dsimp only at hSw); go_simp; try with_reducible rfl
      simp only [Act.put, List.setIfInBounds_toArray, List.set]
      refine takeH (i := 2) (d := some 19) (v := ?_) rfl rfl (by kernel_rfl) (by kernel_rfl) (by kernel_rfl) (fun _ _ _ h => h) (by rfl) ?_ (by assumption) ?_
      rotate_left 1
      · intro w hSw; (try dsimp only at hSw); go_simp; try with_reducible rfl
      simp only [Act.put, List.setIfInBounds_toArray, List.set]
      refine takeH (i := 3) (d := some 20) (v := ?_) rfl rfl (by kernel_rfl) (by kernel_rfl) (by kernel_rfl) (fun _ _ _ h => h) (by rfl) ?_ (by assumption) ?_
      rotate_left 1
      · intro w hSw; (try dsimp only at hSw); go_simp; try with_reducible rfl
      simp only [Act.put, List.setIfInBounds_toArray, List.set]
      refine takeH (i := 4) (d := some 21) (v := ?_) rfl rfl (by kernel_rfl) (by kernel_rfl) (by kernel_rfl) (fun _ _ _ h => h) (by rfl) ?_ (by assumption) ?_
      rotate_left 1
      · intro w hSw; (try dsimp only at hSw); go_simp; try with_reducible rfl
      simp only [Act.put, List.setIfInBounds_toArray, List.set]
      refine takeH (i := 5) (d := some 22) (v := ?_) rfl rfl (by kernel_rfl) (by kernel_rfl) (by kernel_rfl) (fun _ _ _ h => h) (by rfl) ?_ (by assumption) ?_
      rotate_left 1
      · intro w hSw; (try dsimp only at hSw); go_simp; try with_reducible rfl
      simp only [Act.put, List.setIfInBounds_toArray, List.set]
      refine takeH (i := 6) (d := some 23) (v := ?_) rfl rfl (by kernel_rfl) (by kernel_rfl) (by kernel_rfl) (fun _ _ _ h => h) (by rfl) ?_ (by assumption) ?_
      rotate_left 1
      · intro w hSw; (try dsimp only at hSw); go_simp; try with_reducible rfl
      simp only [Act.put, List.setIfInBounds_toArray, List.set]
      refine takeH (i := 7) (d := some 24) (v := ?_) rfl rfl (by kernel_rfl) (by kernel_rfl) (by kernel_rfl) (fun _ _ _ h => h) (by rfl) ?_ (by assumption) ?_
      rotate_left 1
      · intro w hSw; (try dsimp only at hSw); go_simp; try with_reducible rfl
      simp only [Act.put, List.setIfInBounds_toArray, List.set]
      refine takeH (i := 8) (d := some 25) (v := ?_) rfl rfl (by kernel_rfl) (by kernel_rfl) (by kernel_rfl) (fun _ _ _ h => h) (by rfl) ?_ (by assumption) ?_
      rotate_left 1
      · intro w hSw; (try dsimp only at hSw); go_simp; try with_reducible rfl
      simp only [Act.put, List.setIfInBounds_toArray, List.set]
      refine takeH (i := 9) (d := some 26) (v := ?_) rfl rfl (by kernel_rfl) (by kernel_rfl) (by kernel_rfl) (fun _ _ _ h => h) (by rfl) ?_ (by assumption) ?_
      rotate_left 1
      · intro w hSw; (try dsimp only at hSw); go_simp; try with_reducible rfl
      simp only [Act.put, List.setIfInBounds_toArray, List.set]
      refine wpAnyH_done (by kernel_rfl) ?_ _
      go_wp2
      go_ret3
      exact ⟨rv, by rw [HPE.out]; rfl, by rw [HPE.out]; exact HCH.out, below_drew HBL.out⟩

end Go.Proofs.YtbodemkmjemdjaaDoor
