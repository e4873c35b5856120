/-
  The walk of ScopeLast: it returns true and leaves old memory as it was.
-/
import Derived.Test.YtanblanoaahcfaaCommon
namespace Go.Proofs.Ytanblanoaahcfaa
open Go.RowKit Go.ChangeMaps Go.MapKept Go.WideMaps

/-- A slice of steps that came in. -/
def IsSteps (w : World) (a : Option Addr) (n : Nat) (st : Nat → Int × ByteArray × Bool) : Prop :=
  n = 0 ∨ ∃ b off, a = some ⟨b, off, none⟩ ∧ b < w.heap.size ∧ (∀ i, i < n → w.cell? ⟨b, off + i * 3, none⟩ = some (.int .i64 (st i).1) ∧ w.cell? ⟨b, off + i * 3 + 1, none⟩ = some (.string (st i).2.1) ∧ w.cell? ⟨b, off + i * 3 + 2, none⟩ = some (.bool (st i).2.2)) ∧ ∀ i, i < n → (st i).2.1.size ≤ maxLen

theorem box_cell (w : World) (cs : Array Value) (t : TypeId) (j : Nat) (v : Value) (h : cs[j]? = some v) : (w.alloc (.cells cs t)).cell? ⟨w.heap.size, j, none⟩ = some v := by
  unfold World.cell?
  rw [heap_alloc_new]
  exact h

theorem IsSteps.at {w w' : World} {a : Option Addr} {n : Nat} {st} (h : IsSteps w a n st) (hb : Below w.heap.size w w') (k : Nat) (hk : k < n) :
    ∃ b off, a = some ⟨b, off, none⟩ ∧ w'.cell? ⟨b, off + k * 3, none⟩ = some (.int .i64 (st k).1) ∧ w'.cell? ⟨b, off + k * 3 + 1, none⟩ = some (.string (st k).2.1) ∧ w'.cell? ⟨b, off + k * 3 + 2, none⟩ = some (.bool (st k).2.2) ∧ (st k).2.1.size ≤ maxLen := by
  rcases h with h | ⟨b, off, rfl, hlt, h1, h2⟩
  · omega
  · obtain ⟨c1, c2, c3⟩ := h1 k hk
    exact ⟨b, off, rfl, cell_later hb c1, cell_later hb c2, cell_later hb c3, h2 k hk⟩

set_option maxHeartbeats 400000 in
theorem last_long (a : Option Addr) (n c : Nat) (xk : Int) (xn other : ByteArray) (xt : Bool) (w : World) (hn : ((1000 : Int) < (n : Int))) :
    Calls Try.prog 3 #[.slice a n c, .agg #[.int .i64 xk, .string xn, .bool xt], .string other] w fun e w' => e = .returned (.bool true) ∧ Below w.heap.size w w' := by
  have hb0 : Below w.heap.size w (w.alloc (.cells #[.int .i64 xk, .string xn, .bool xt] 24)) := (Below.refl _ w).alloc (Nat.le_refl _) _
  go_enter Try.func3, Try.ntmps3
  go_wp2_with fail
  refine (alive_any _).mono ?_
  rintro e w1 ⟨rfl, hb1⟩
  have hb := hb0.trans (hb1.mono hb0.size)
  go_wp2
  go_ret
  exact ⟨rfl, hb⟩

set_option maxHeartbeats 400000 in
theorem last_empty (a : Option Addr) (n c : Nat) (xk : Int) (xn other : ByteArray) (xt : Bool) (w : World) (hn : ¬ ((1000 : Int) < (n : Int))) (hx : xn.toList = []) :
    Calls Try.prog 3 #[.slice a n c, .agg #[.int .i64 xk, .string xn, .bool xt], .string other] w fun e w' => e = .returned (.bool true) ∧ Below w.heap.size w w' := by
  have hb0 : Below w.heap.size w (w.alloc (.cells #[.int .i64 xk, .string xn, .bool xt] 24)) := (Below.refl _ w).alloc (Nat.le_refl _) _
  have x1 : (w.alloc (.cells #[.int .i64 xk, .string xn, .bool xt] 24)).cell? ⟨w.heap.size, 1, none⟩ = some (.string xn) := box_cell _ _ _ _ _ rfl
  have hd : decide ((1000 : Int) < (n : Int)) = false := by simpa using hn
  go_enter Try.func3, Try.ntmps3
  go_wp2_with fail
  refine (alive_any _).mono ?_
  rintro e w1 ⟨rfl, hb1⟩
  have hb := hb0.trans (hb1.mono hb0.size)
  have x2 := cell_later hb1 x1
  go_wp2
  go_ret
  exact ⟨rfl, hb⟩

theorem drewN_below {B : Nat} {w w' : World} (h : Below B w w') (n : Nat) : Below B w (w'.drewN n) := ⟨h.os, h.tape, h.output, h.size, h.block⟩

theorem byteArray_eq {a b : ByteArray} (h : (a == b) = true) : a = b := (MapKept.bytes_beq a b).mp h

theorem toList_inj {a b : ByteArray} (h : a.toList = b.toList) : a = b := by
  rw [ByteArray.toList_eq, ByteArray.toList_eq] at h
  exact WideShapes.bytes_inj h

theorem keptCell {w w1 w2 : World} (h1 : Below w.heap.size w w1) (h2 : Below w.heap.size w w2) {b o : Nat} (hb : b < w.heap.size) {v : Value} (h : w1.cell? ⟨b, o, none⟩ = some v) : w2.cell? ⟨b, o, none⟩ = some v := by
  rw [h2.cell (p := ⟨b, o, none⟩) hb, ← h1.cell (p := ⟨b, o, none⟩) hb]
  exact h

theorem declare_loose {w : World} {sb ρ nm bl k} (h : Sc w sb ρ nm bl) (hB : Bd k nm bl) (hk : k < 900000) (t : Bool) (s : ByteArray) (hs : s.size ≤ maxLen) :
    Calls Try.prog 10 #[.pointer (some ⟨sb, 0, none⟩), .string s, .bool t] w fun e w' => ∃ v : Int, e = .returned (.int .i64 v) ∧ Goes w sb ρ (declN' bl s t nm) (declB' nm s bl) w' :=
  (declare_sc' h hB hk t s hs).mono fun _ _ ⟨h1, h2⟩ => ⟨_, h1, h2⟩

/-- The steps under way. -/
def Playing (w wr : World) (sb k : Nat) : Prop := ∃ ρ nm bl, Sc wr sb ρ nm bl ∧ Bd k nm bl ∧ (∀ q, ρ q ≠ none → w.heap.size ≤ q) ∧ Below w.heap.size w wr

set_option maxHeartbeats 2000000 in
theorem last_main (a : Option Addr) (n c : Nat) (st : Nat → Int × ByteArray × Bool) (xk : Int) (xn other : ByteArray) (xt : Bool) (w : World) (hs : IsSteps w a n st) (hn : ¬ ((1000 : Int) < (n : Int))) (hx : xn.toList.isEmpty = false) (hxs : xn.size ≤ maxLen) (hos : other.size ≤ maxLen) :
    Calls Try.prog 3 #[.slice a n c, .agg #[.int .i64 xk, .string xn, .bool xt], .string other] w fun e w' => e = .returned (.bool true) ∧ Below w.heap.size w w' := by
  obtain ⟨W0, hW0⟩ : ∃ W0, w.alloc (.cells #[.int .i64 xk, .string xn, .bool xt] 24) = W0 := ⟨_, rfl⟩
  have hb0 : Below w.heap.size w W0 := by rw [← hW0]; exact (Below.refl _ w).alloc (Nat.le_refl _) _
  have x1 : W0.cell? ⟨w.heap.size, 1, none⟩ = some (.string xn) := by
    rw [← hW0]; exact box_cell _ _ _ _ _ rfl
  have x2 : W0.cell? ⟨w.heap.size, 2, none⟩ = some (.bool xt) := by
    rw [← hW0]; exact box_cell _ _ _ _ _ rfl
  have hsz0 : W0.heap.size = w.heap.size + 1 := by rw [← hW0]; simp
  have hd : decide ((1000 : Int) < (n : Int)) = false := by simpa using hn
  have HW0 := Lib.hid hW0; clear hW0
  have HS := Lib.hid hs; clear hs
  have HZ := Lib.hid hsz0; clear hsz0
  go_enter Try.func3, Try.ntmps3
  go_wp2_with fail
  rw [HW0.out]
  refine (alive_any _).mono ?_
  rintro e w1 ⟨rfl, hb1⟩
  have x3 := cell_later hb1 x1
  have x4 := cell_later hb1 x2
  go_wp2_with fail
  refine (new_any w1).mono ?_
  rintro e w2 ⟨sb, ρ, rfl, hsc1, hm1⟩
  obtain ⟨hb2, hq1⟩ := hm1.below (w := W0) hb1 (by simp)
  go_wp2_with fail
  have HP0 := Lib.hid (show Playing W0 w2 sb 0 from ⟨ρ, _, _, hsc1, Bd.new, hq1, hb2⟩)
  clear hsc1 hm1 hq1 hb2 x3 x4 hb1
  have X1 := Lib.hid x1
  have X2 := Lib.hid x2
  clear x1 x2
  go_loopw [9] (fun i wr => ∃ k : Nat, k ≤ n ∧ i = .int .i64 k ∧ Playing W0 wr sb k) (fun i _ => n - (intOf i).toNat)
  case atStart => exact ⟨0, Nat.zero_le _, rfl, HP0.out⟩
  case round =>
    clear HP0
    obtain ⟨k, hk, rfl, hp⟩ := hrel
    by_cases hkn : k < n
    · obtain ⟨ρ, nm, bl, hsc, hB, hq, hb⟩ := hp
      obtain ⟨b, off, rfl, y0, y1, y2, hys⟩ := HS.out.at (hb0.trans (hb.mono hb0.size)) k hkn
      have HSC := Lib.hid hsc; clear hsc
      have HB := Lib.hid hB; clear hB
      have HQ := Lib.hid hq; clear hq
      have HBL := Lib.hid hb; clear hb
      generalize (st k).1 = yk at y0
      generalize (st k).2.1 = yn at y1 hys
      generalize (st k).2.2 = yt at y2
      by_cases h0 : yk = 0
      · have g0 : (yk == 0) = true := by simp [h0]
        clear h0
        go_wp2_with (first
          | (go_at_call 9
             refine (open_sc HSC.out HB.out (by omega)).mono ?_
             rintro e w3 ⟨rfl, ρ3, hsc3, hm3⟩
             have HSC3 := Lib.hid hsc3
             have HM3 := Lib.hid hm3
             clear hsc3 hm3)
          | go_in)
        obtain ⟨hb3, hq3⟩ := HM3.out.below HBL.out HQ.out
        go_roundw
        case rel => exact ⟨k + 1, by omega, by go_num, ρ3, _, _, HSC3.out, HB.out.opened, hq3, hb3⟩
        case measure => simp [intOf]; omega
      · have g0 : (yk == 0) = false := by simp [h0]
        by_cases h1 : 1 < yk
        · have g1 : decide (1 < yk) = true := by simpa using h1
          have hblt : b < W0.heap.size := by
            rcases HS.out with h | ⟨b', off', e, hlt, _⟩
            · omega
            · have := hb0.size
              simp only [Option.some.injEq, Addr.mk.injEq] at e
              omega
          clear h0
          go_wp2
          go_region_held3 (fun w' : World => w'.cell? ⟨b, off + k * 3 + 1, none⟩ = some (.string yn) ∧ w'.cell? ⟨b, off + k * 3 + 2, none⟩ = some (.bool yt)) (first | exact ⟨‹_›, ‹_›⟩ | go_keep) (first
            | (go_at_call 10
               refine (declare_loose (HSC.out.drewN 1) HB.out (by omega) yt yn hys).mono ?_
               rintro e w3 ⟨v, rfl, ρ3, hsc3, hm3⟩
               have hbm := (Moves.below (w := W0) HBL.out.drew hm3 HQ.out).1
               have z1 := keptCell HBL.out.drew hbm hblt y1
               have z2 := keptCell HBL.out.drew hbm hblt y2
               clear hbm
               have HSC3 := Lib.hid hsc3
               have HM3 := Lib.hid hm3
               clear hsc3 hm3)
            | fail)
          go_wp2
          obtain ⟨hb3, hq3⟩ := HM3.out.below (w := W0) (HBL.out.drew) HQ.out
          go_roundw
          case rel => exact ⟨k + 1, by omega, by go_num, ρ3, _, _, HSC3.out, HB.out.decl' yn yt, hq3, hb3⟩
          case measure => simp [intOf]; omega
        · have g1 : decide (1 < yk) = false := by simpa using h1
          clear h0 h1
          go_wp2
          go_roundw
          case rel => exact ⟨k + 1, by omega, by go_num, ρ, _, _, HSC.out, HB.out.mono (by omega), HQ.out, HBL.out⟩
          case measure => simp [intOf]; omega
    · obtain rfl : k = n := by omega
      obtain ⟨ρ, nm, bl, hsc, hB, hq, hb⟩ := hp
      have x3 := cell_later hb X1.out
      have x4 := cell_later hb X2.out
      have HSC := Lib.hid hsc; clear hsc
      have HB := Lib.hid hB; clear hB
      have HQ := Lib.hid hq; clear hq
      have HBL := Lib.hid hb; clear hb
      clear hkn
      go_wp2_with fail
      refine (copy_sc HSC.out HB.out (by omega)).mono ?_
      rintro e w3 ⟨tb, ρt, rfl, hsct, hbt, hqt⟩
      have x5 := cell_later hbt x3
      have x6 := cell_later hbt x4
      clear x3 x4
      have hsc3 := HSC.out.frame hbt.size (fun q hq' => hbt.block q (HSC.out.lt q hq'))
      have hdis : ∀ q, ρt q ≠ none → ρ q = none := fun q hq' => by
        cases e : ρ q with
        | none => rfl
        | some r => have := HSC.out.lt q (by rw [e]; simp); have := hqt q hq'; omega
      have hb3 := HBL.out.trans (hbt.mono HBL.out.size)
      have hnx := HB.out.names xn
      have hno := HB.out.names other
      go_wp2_with fail
      refine (isType_sc hsc3 xn hxs (by omega)).mono ?_
      rintro e w4 ⟨rfl, rfl⟩
      go_wp2_with fail
      refine (isType_sc hsc3 other hos (by omega)).mono ?_
      rintro e w4 ⟨rfl, rfl⟩
      go_wp2_with fail
      refine (declare_sc hsc3 HB.out (by omega) xt xn hx hxs).mono ?_
      rintro e w4 ⟨rfl, ρ4, hsc4, hm4⟩
      obtain ⟨hsct4, _⟩ := hsct.other hm4 hdis
      obtain ⟨hb4, _⟩ := hm4.below (w := W0) hb3 HQ.out
      have hB4 := HB.out.decl xn xt
      have q1 := isTypeQ hsc4 xn hxs (by have := hB4.names xn; omega) xt (by simp [declN, lastB_decl])
      have q2 := isTypeQ hsct4 xn hxs (by omega) _ rfl
      have q3 : xn ≠ other → ∀ n, _ := fun hne => isTypeQ hsc4 other hos (by have := hB4.names other; omega) (lastB (nm other)) (by simp [declN, Ne.symm hne])
      have x7 := keptCell hb3 hb4 (by have := HZ.out; omega) x5
      have x8 := keptCell hb3 hb4 (by have := HZ.out; omega) x6
      generalize lastB (nm xn) = v1 at q2 ⊢
      generalize lastB (nm other) = v2 at q3 ⊢
      have Q1 := Lib.hid q1
      have Q2 := Lib.hid q2
      have Q3 := Lib.hid q3
      have HB4 := Lib.hid (hb0.trans (hb4.mono hb0.size))
      clear q1 q2 q3 hB4 hsc4 hsct4 hsct hsc3 hm4 hdis hb3 hb4 x5 x6 hqt hbt hb0 X1 X2 HSC HB HQ HBL hnx hno
      by_cases he : other = xn
      · subst he
        go_wp2_with fail
        go_quiet (first | (go_at_call_of 12 (Value.pointer (some (Addr.mk sb 0 none))); exact Q1.out _) | (go_at_call_of 12 (Value.pointer (some (Addr.mk tb 0 none))); exact Q2.out _))
        go_wp2
        go_ret
        exact ⟨rfl, drewN_below HB4.out _⟩
      · have g0 : ¬ other.toList = xn.toList := fun h => he (toList_inj h)
        have g1 : (other.toList == xn.toList) = false := by simpa using g0
        have Q4 := Lib.hid (Q3.out (fun e => he e.symm))
        clear Q3
        go_wp2_with fail
        go_quiet (first | (go_at_call_of 12 (Value.string other); exact Q4.out _) | (go_at_call_of 12 (Value.pointer (some (Addr.mk sb 0 none))); exact Q1.out _) | (go_at_call_of 12 (Value.pointer (some (Addr.mk tb 0 none))); exact Q2.out _))
        go_wp2
        go_ret
        exact ⟨rfl, drewN_below HB4.out _⟩

theorem last_any (a : Option Addr) (n c : Nat) (st : Nat → Int × ByteArray × Bool) (xk : Int) (xn other : ByteArray) (xt : Bool) (w : World) (hs : IsSteps w a n st) (hxs : xn.size ≤ maxLen) (hos : other.size ≤ maxLen) :
    Calls Try.prog 3 #[.slice a n c, .agg #[.int .i64 xk, .string xn, .bool xt], .string other] w fun e w' => e = .returned (.bool true) ∧ Below w.heap.size w w' := by
  by_cases hn : (1000 : Int) < (n : Int)
  · exact last_long a n c xk xn other xt w hn
  · cases hx : xn.toList.isEmpty with
    | true => exact last_empty a n c xk xn other xt w hn (by simpa using hx)
    | false => exact last_main a n c st xk xn other xt w hs hn hx hxs hos

end Go.Proofs.Ytanblanoaahcfaa
