/-
  What tree.Path answers: each part of the text, cut at the slashes, is a name.
-/
import Derived.Test.YtbodemkmjemdjaaDoorRows
import Derived.Test.YtbodemkmjemdjaaDoorShelf
import Derived.WalkKit
import Derived.WalkSpells
import Derived.Lib.Hide
import Derived.Below
namespace Go.Proofs.YtbodemkmjemdjaaDoor
open Go.RowKit

def badRune (x : Nat) : Bool := decide (x < 33) || decide (126 < x)

set_option maxHeartbeats 1000000 in
theorem rune_any (x : Nat) (w : World) : Calls Tryd.prog 41 #[.int .i32 x] w fun e w' => e = .returned (.bool (badRune x)) ∧ w = w' := by
  by_cases h1 : x < 33
  · have g1 : decide ((x : Int) < 33) = true := by simp; omega
    have e1 : badRune x = true := by simp [badRune, h1]
    rw [e1]
    go_enter Tryd.func41, Tryd.ntmps41
    go_wp2
    go_ret
    exact ⟨rfl, rfl⟩
  · have g1 : decide ((x : Int) < 33) = false := by simp; omega
    by_cases h2 : 126 < x
    · have g2 : decide ((126 : Int) < x) = true := by simp; omega
      have e1 : badRune x = true := by simp [badRune, h2]
      rw [e1]
      go_enter Tryd.func41, Tryd.ntmps41
      go_wp2
      go_ret
      exact ⟨rfl, rfl⟩
    · have g2 : decide ((126 : Int) < x) = false := by simp; omega
      have e1 : badRune x = false := by simp [badRune, h1, h2]
      rw [e1]
      go_enter Tryd.func41, Tryd.ntmps41
      go_wp2
      go_ret
      exact ⟨rfl, rfl⟩

theorem rune_pred (w : World) : PredGrows Tryd.prog 41 #[] badRune w := fun W x _ _ =>
  (rune_any x W).mono fun _ _ ⟨h1, h2⟩ => ⟨h1, h2 ▸ Below.refl _ _⟩

theorem enters41 : ∀ args w, (callFunc 41 args).run Tryd.prog w = .ok (.enter 41 args) w := enters_of Tryd.func41 (by kernel_rfl) rfl

theorem contains_any (s : ByteArray) (w : World) : Calls Tryd.prog 40 #[.string s, .func (.func 41) #[] #[]] w fun e w' => e = .returned (.bool (decide (0 ≤ Lib.idxFunc badRune true s))) ∧ Below w.heap.size w w' :=
  Tryd.strings_ContainsFunc_grows 41 #[] enters41 badRune s w (rune_pred w)

def slash : ByteArray := ⟨#[47]⟩
/-- A part of a path is a name. -/
def partOk (n : ByteArray) : Bool := decide (1 ≤ n.size) && decide (n.size ≤ 32) && !decide (n.toList = [46]) && !decide (n.toList = [46, 46]) && !decide (0 ≤ Lib.idxFunc badRune true n)
def partsOf (s : ByteArray) : List ByteArray := Lib.splitB slash 0 (Lib.countB s slash) s
def pathOk (s : ByteArray) : Bool := decide ((partsOf s).length ≤ 20) && (partsOf s).all partOk

theorem partsOf_length (s : ByteArray) : (partsOf s).length = Lib.countB s slash + 1 := Lib.splitB_all slash (by decide) 0 _ s rfl

set_option maxHeartbeats 2000000 in
theorem path_any (s : ByteArray) (m : Int) (w : World) (hs : s.size < 4294967281) (hm : w.cell? ⟨1, 0, none⟩ = some (.int .i64 m)) :
    Calls Tryd.prog 26 #[.string s] w fun e w' => e = .returned (.bool (pathOk s)) ∧ Below w.heap.size w w' := by
  obtain ⟨n, hn⟩ : ∃ n, Lib.countB s slash + 1 = n := ⟨_, rfl⟩
  have hsp := Tryd.strings_Split s slash m w hs hm (by decide)
  rw [hn] at hsp
  have hl : (partsOf s).length = n := by rw [partsOf_length, hn]
  obtain ⟨L, hL⟩ : ∃ L, partsOf s = L := ⟨_, rfl⟩
  have hLs : Lib.splitB slash 0 (Lib.countB s slash) s = L := hL
  rw [hLs] at hsp
  rw [hL] at hl
  have hpo : pathOk s = (decide (L.length ≤ 20) && L.all partOk) := by unfold pathOk; rw [hL]
  rw [hpo, hl]
  obtain ⟨W, hW⟩ : ∃ W, w.alloc (.cells (L.map Value.string).toArray 9) = W := ⟨_, rfl⟩
  rw [hW] at hsp
  have hbW : Below w.heap.size w W := by rw [← hW]; exact (Below.refl _ w).alloc (Nat.le_refl _) _
  have hcell : ∀ (i : Nat) x, L[i]? = some x → W.cell? ⟨w.heap.size, i, none⟩ = some (.string x) := fun i x hx => by
    rw [← hW]
    unfold World.cell?
    rw [heap_alloc_new]
    simp [hx]
  have HSP := Lib.hid hsp; clear hsp
  have HC := Lib.hid hcell; clear hcell
  have HB := Lib.hid hbW; clear hbW
  have HL := Lib.hid hl
  clear hl hW hpo hLs hL hn hm hs
  by_cases h20 : n ≤ 20
  · have h20' : decide (n ≤ 20) = true := by simpa using h20
    have h20i : ¬ (20 : Int) < (n : Int) := by omega
    rw [h20', Bool.true_and]
    clear h20'
    go_enter Tryd.func26, Tryd.ntmps26
    go_wp2_with fail
    refine HSP.out.mono ?_
    rintro e w1 ⟨rfl, rfl⟩
    go_wp2_with fail
    go_loopw [13] (fun i wr => ∃ k : Nat, k ≤ n ∧ i = .int .i64 k ∧ Below w1.heap.size w1 wr ∧ (L.take k).all partOk = true) (fun i _ => n - (intOf i).toNat)
    case atStart => exact ⟨0, Nat.zero_le _, rfl, Below.refl _ _, rfl⟩
    case round =>
      obtain ⟨k, hk, rfl, hbl, hall⟩ := hrel
      by_cases hkn : k < n
      · obtain ⟨x, hx⟩ : ∃ x, L[k]? = some x := ⟨L[k]'(by have := HL.out; omega), List.getElem?_eq_getElem _⟩
        have hc := cell_later hbl (HC.out k x hx)
        have htk : (L.take (k + 1)).all partOk = ((L.take k).all partOk && partOk x) := by
          rw [List.take_add_one, hx]; simp
        have hno : partOk x = false → L.all partOk = false := fun h => by
          rw [List.all_eq_false]
          exact ⟨x, List.mem_of_getElem? hx, by simp [h]⟩
        have HTK := Lib.hid htk
        have HNO := Lib.hid hno
        have HALL := Lib.hid hall
        have HBL := Lib.hid hbl
        clear htk hno hall hbl hx
        by_cases p1 : 1 ≤ x.size
        · have q1 : ¬ (x.size : Int) < 1 := by omega
          by_cases p2 : x.size ≤ 32
          · have q2 : ¬ (32 : Int) < (x.size : Int) := by omega
            by_cases p3 : x.toList = [46]
            · have hbad : partOk x = false := by simp [partOk, p3]
              have HF := Lib.hid (HNO.out hbad)
              go_wp2
              go_ret
              exact ⟨by rw [HF.out]; rfl, HB.out.trans (HBL.out.mono HB.out.size)⟩
            · by_cases p4 : x.toList = [46, 46]
              · have hbad : partOk x = false := by simp [partOk, p4]
                have HF := Lib.hid (HNO.out hbad)
                go_wp2
                go_ret
                exact ⟨by rw [HF.out]; rfl, HB.out.trans (HBL.out.mono HB.out.size)⟩
              · have r3 : (x.toList == [46]) = false := by simpa using p3
                have r4 : (x.toList == [46, 46]) = false := by simpa using p4
                have hcf := contains_any x wr
                cases p5 : decide (0 ≤ Lib.idxFunc badRune true x) with
                | true =>
                  rw [p5] at hcf
                  have hbad : partOk x = false := by
                    unfold partOk
                    rw [p5]; simp
                  have HF := Lib.hid (HNO.out hbad)
                  have HCF := Lib.hid hcf
                  clear hcf p5
                  go_wp2_with (first | (go_at_call 40; refine HCF.out.mono ?_; rintro e w4 ⟨rfl, hb4⟩) | go_in)
                  go_ret
                  exact ⟨by rw [HF.out]; rfl, HB.out.trans ((HBL.out.trans (hb4.mono HBL.out.size)).mono HB.out.size)⟩
                | false =>
                  rw [p5] at hcf
                  have hgood : partOk x = true := by
                    unfold partOk
                    rw [p5]; simp [p1, p2, p3, p4]
                  have HCF := Lib.hid hcf
                  clear hcf p5
                  go_wp2_with (first | (go_at_call 40; refine HCF.out.mono ?_; rintro e w4 ⟨rfl, hb4⟩) | go_in)
                  go_roundw
                  case rel => exact ⟨k + 1, by omega, by go_num, HBL.out.trans (hb4.mono HBL.out.size), by rw [HTK.out, HALL.out, hgood]; rfl⟩
                  case measure => simp [intOf]; omega
          · have q2 : (32 : Int) < (x.size : Int) := by omega
            have hbad : partOk x = false := by simp [partOk, p2]
            have HF := Lib.hid (HNO.out hbad)
            go_wp2
            go_ret
            exact ⟨by rw [HF.out]; rfl, HB.out.trans (HBL.out.mono HB.out.size)⟩
        · have q1 : (x.size : Int) < 1 := by omega
          have hbad : partOk x = false := by simp [partOk, p1]
          have HF := Lib.hid (HNO.out hbad)
          go_wp2
          go_ret
          exact ⟨by rw [HF.out]; rfl, HB.out.trans (HBL.out.mono HB.out.size)⟩
      · obtain rfl : k = n := by omega
        have ht : L.take k = L := List.take_of_length_le (by have := HL.out; omega)
        rw [ht] at hall
        have HALL := Lib.hid hall
        clear hall
        go_wp2
        go_ret
        exact ⟨by rw [HALL.out]; rfl, HB.out.trans (hbl.mono HB.out.size)⟩
  · have h20' : decide (n ≤ 20) = false := by simpa using h20
    have h20i : (20 : Int) < (n : Int) := by omega
    rw [h20', Bool.false_and]
    clear h20'
    go_enter Tryd.func26, Tryd.ntmps26
    go_wp2_with fail
    refine HSP.out.mono ?_
    rintro e w1 ⟨rfl, rfl⟩
    go_wp2_with fail
    go_ret
    exact ⟨rfl, HB.out⟩

end Go.Proofs.YtbodemkmjemdjaaDoor
