/-
  The walk of ScopePlays: it returns true and leaves old memory as it was.
-/
import Derived.Test.YtanblanoaahcfaaTwo
import Derived.Test.YtanblanoaahcfaaBalW
namespace Go.Proofs.Ytanblanoaahcfaa
open Go.RowKit

set_option maxHeartbeats 400000 in
theorem plays_long (a : Option Addr) (n c : Nat) (ask : ByteArray) (w : World) (hn : (1000 : Int) < (n : Int)) :
    Calls Try.prog 4 #[.slice a n c, .string ask] w fun e w' => e = .returned (.bool true) ∧ Below w.heap.size w w' := by
  go_enter Try.func4, Try.ntmps4
  go_wp2
  go_ret
  exact ⟨rfl, Below.refl _ _⟩

theorem asks {w wr sb ρ nm bl rb ρr many all k} (hT : Two w wr sb ρ nm bl rb ρr many all) (hB : Bd k nm bl) (hS : Same k nm bl many all) (hk : k < 900000) (s : ByteArray) (hs : s.size ≤ maxLen) :
    ∃ v : Bool, (∀ q, Calls Try.prog 12 #[.pointer (some ⟨sb, 0, none⟩), .string s] (wr.drewN q) fun e w'' => e = .returned (.bool v) ∧ ∃ m, w'' = wr.drewN m) ∧
      ∀ q, Calls Try.prog 19 #[.pointer (some ⟨rb, 0, none⟩), .string s] (wr.drewN q) fun e w'' => e = .returned (.bool v) ∧ ∃ m, w'' = wr.drewN m :=
  ⟨lastB (nm s), isTypeQ hT.sc s hs (by have := hB.names s; omega) _ rfl, isTypeRQ hT.rf s (by have := hS.len; omega) _ (hS.is s)⟩

theorem Rf.c0 {w rb ρ m all} (h : Rf w rb ρ m all) : w.cell? ⟨rb, 0, none⟩ = some (.int .i64 m) := by
  obtain ⟨v, h⟩ := h
  exact h.c0

set_option maxRecDepth 100000 in
set_option maxHeartbeats 8000000 in
theorem plays_main (a : Option Addr) (n c : Nat) (st : Nat → Int × ByteArray × Bool) (ask : ByteArray) (w : World) (hs : IsSteps w a n st) (hsz : ∀ i, i < n → (st i).2.1.size + 1 ≤ maxLen) (hn : ¬ (1000 : Int) < (n : Int)) (hos : ask.size ≤ maxLen) :
    Calls Try.prog 4 #[.slice a n c, .string ask] w fun e w' => e = .returned (.bool true) ∧ Below w.heap.size w w' := by
  have hd : decide ((1000 : Int) < (n : Int)) = false := by simpa using hn
  have HS := Lib.hid hs; clear hs
  have HSZ := Lib.hid hsz; clear hsz
  go_enter Try.func4, Try.ntmps4
  go_wp2_with fail
  refine (new_any w).mono ?_
  rintro e w1 ⟨sb0, ρ0, rfl, hsc1, hm1⟩
  go_wp2_with fail
  refine (newR_any w1).mono ?_
  rintro e w2 ⟨rfl, hb2⟩
  have HP0 := Lib.hid (show Both w _ sb0 w2.heap.size 0 from ⟨ρ0, _, _, _, _, _, Two.start hsc1 hm1 hb2, Bd.new, Inv.new, Same.new⟩)
  clear hsc1 hm1 hb2
  go_wp2_with fail
  obtain ⟨rb, hrb⟩ : ∃ rb, w2.heap.size = rb := ⟨_, rfl⟩
  rw [hrb] at HP0 ⊢
  clear hrb
  go_loopw [5, 7] (fun av i wr => ∃ k sb : Nat, k ≤ n ∧ av = .pointer (some ⟨sb, 0, none⟩) ∧ i = .int .i64 k ∧ Both w wr sb rb k) (fun _ i _ => n - (intOf i).toNat)
  case atStart => exact ⟨0, sb0, Nat.zero_le _, rfl, rfl, HP0.out⟩
  case round =>
    clear HP0
    obtain ⟨k, sb, hk, rfl, rfl, hp⟩ := hrel
    by_cases hkn : k < n
    · obtain ⟨ρ, nm, bl, ρr, many, all, hT, hB, hI, hS⟩ := hp
      obtain ⟨b, off, rfl, y0, y1, y2, hys⟩ := HS.out.at hT.below k hkn
      have hyl := HSZ.out k hkn
      generalize (st k).1 = xk at y0
      generalize (st k).2.1 = xn at y1 hys hyl
      generalize (st k).2.2 = xt at y2
      have hX := Beside.fresh hT xk xn xt
      have hT1 := hT.later (w' := wr.alloc (.cells #[.int .i64 xk, .string xn, .bool xt] 24)) ((Below.refl _ wr).alloc (Nat.le_refl _) _)
      have HX := Lib.hid hX
      have HT := Lib.hid hT1
      have HB := Lib.hid hB
      have HI := Lib.hid hI
      have HSA := Lib.hid hS
      clear hX hT hT1 hB hI hS
      have hmany := HSA.out.size
      have hpos := HB.out.pos
      have hle := HB.out.len
      have hal := HSA.out.len
      have HM := Lib.hid hmany
      clear hmany
      by_cases h0 : xk = 0
      · subst h0
        obtain ⟨V, hV⟩ : ∃ V, (if bl.length = 65536 then (4 : Int) else 0) = V := ⟨_, rfl⟩
        have hV' : (if many = 65536 then (4 : Int) else 0) = V := by rw [← HM.out]; exact hV
        have HV := Lib.hid hV
        have HV' := Lib.hid hV'
        clear hV hV'
        go_wp2_with fail
        refine (openA HT.out.sc HB.out (by omega) V HV.out).mono ?_
        rintro e w3 ⟨rfl, ρ3, hsc3, hm3⟩
        have hT3 := HT.out.goA hsc3 hm3
        have hX3 := HX.out.goA hm3
        have x1 := hX3.c1
        have x2 := hX3.c2
        have HT3 := Lib.hid hT3
        have HX3 := Lib.hid hX3
        clear hT3 hX3 hsc3 hm3
        go_wp2_with fail
        refine (openRV HT3.out.rf (by have := HM.out; omega) V HV'.out).mono ?_
        rintro e w4 ⟨rfl, ρ4, hrf4, hm4⟩
        have HT4 := Lib.hid (HT3.out.goR hrf4 hm4)
        have HX4 := Lib.hid (HX3.out.goR hm4)
        clear hrf4 hm4 x1 x2
        have HB4 := Lib.hid (HB.out.opened)
        have HI4 := Lib.hid (HI.out.opened)
        have HS4 := Lib.hid (HSA.out.opened)
        obtain ⟨v1, q2, q4⟩ := asks HT4.out HB4.out HS4.out (by omega) ask hos
        obtain ⟨v2, q3, q5⟩ := asks HT4.out HB4.out HS4.out (by omega) xn hys
        have q1 := blocksQ HT4.out.sc _ HS4.out.size
        have z0 := HT4.out.rf.c0
        have z1 := HX4.out.c1
        have z2 := HX4.out.c2
        have Q1 := Lib.hid q1
        have Q2 := Lib.hid q2
        have Q3 := Lib.hid q3
        have Q4 := Lib.hid q4
        have Q5 := Lib.hid q5
        clear q1 q2 q3 q4 q5
        go_wp2
        go_quiet (first | (go_at_call 18; exact Q1.out _) | (go_at_call_of 12 (Value.string ask); exact Q2.out _) | (go_at_call_of 12 (Value.string xn); exact Q3.out _) | (go_at_call_of 19 (Value.string ask); exact Q4.out _) | (go_at_call_of 19 (Value.string xn); exact Q5.out _))
        go_wp2
        go_roundw
        case rel => exact ⟨k + 1, sb, by omega, rfl, by go_num, _, _, _, _, _, _, HT4.out.drewN _, HB4.out, HI4.out, HS4.out⟩
        case measure => simp [intOf]; omega
      · have g0 : (xk == 0) = false := by simp [h0]
        by_cases h1 : xk = 1
        · subst h1
          clear g0 h0
          obtain ⟨V, hV⟩ : ∃ V, (if bl.length = 1 then (100 : Int) else 0) = V := ⟨_, rfl⟩
          have hV' : (if many = 1 then (100 : Int) else 0) = V := by rw [← HM.out]; exact hV
          have HV := Lib.hid hV
          have HV' := Lib.hid hV'
          clear hV hV'
          go_wp2_with fail
          refine (closeA HT.out.sc HB.out HI.out (by omega) V HV.out).mono ?_
          rintro e w3 ⟨rfl, ρ3, hsc3, hm3⟩
          have hT3 := HT.out.goA hsc3 hm3
          have hX3 := HX.out.goA hm3
          have x1 := hX3.c1
          have x2 := hX3.c2
          have HT3 := Lib.hid hT3
          have HX3 := Lib.hid hX3
          clear hT3 hX3 hsc3 hm3
          go_wp2_with fail
          refine (closeRV HT3.out.rf (by have := HM.out; omega) (by have := HM.out; omega) (by omega) V HV'.out).mono ?_
          rintro e w4 ⟨rfl, ρ4, hrf4, hm4⟩
          have HT4 := Lib.hid (HT3.out.goR hrf4 hm4)
          have HX4 := Lib.hid (HX3.out.goR hm4)
          clear hrf4 hm4 x1 x2
          have HB4 := Lib.hid (HB.out.closed.mono (Nat.le_succ k))
          have HI4 := Lib.hid (HI.out.shut hpos)
          have HS4 := Lib.hid (HSA.out.shut HI.out (by have := HM.out; omega))
          obtain ⟨v1, q2, q4⟩ := asks HT4.out HB4.out HS4.out (by omega) ask hos
          obtain ⟨v2, q3, q5⟩ := asks HT4.out HB4.out HS4.out (by omega) xn hys
          have q1 := blocksQ HT4.out.sc _ HS4.out.size
          have z0 := HT4.out.rf.c0
          have z1 := HX4.out.c1
          have z2 := HX4.out.c2
          have Q1 := Lib.hid q1
          have Q2 := Lib.hid q2
          have Q3 := Lib.hid q3
          have Q4 := Lib.hid q4
          have Q5 := Lib.hid q5
          clear q1 q2 q3 q4 q5
          go_wp2
          go_quiet (first | (go_at_call 18; exact Q1.out _) | (go_at_call_of 12 (Value.string ask); exact Q2.out _) | (go_at_call_of 12 (Value.string xn); exact Q3.out _) | (go_at_call_of 19 (Value.string ask); exact Q4.out _) | (go_at_call_of 19 (Value.string xn); exact Q5.out _))
          go_wp2
          go_roundw
          case rel => exact ⟨k + 1, sb, by omega, rfl, by go_num, _, _, _, _, _, _, HT4.out.drewN _, HB4.out, HI4.out, HS4.out⟩
          case measure => simp [intOf]; omega
        · have g1 : (xk == 1) = false := by simp [h1]
          by_cases h2 : xk = 2
          · subst h2
            clear g0 g1 h0 h1
            have hyz : xn.size + 1 ≤ 9223372036854775807 := hyl
            go_wp2_with fail
            refine (copy_sc HT.out.sc HB.out (by omega)).mono ?_
            rintro e w3 ⟨tb, ρt, rfl, hsct, hbt, hqt⟩
            have hT3 := HT.out.later hbt
            have hX3 := HX.out.later hbt
            have x1 := hX3.c1
            have x2 := hX3.c2
            have hdis : ∀ q, ρt q ≠ none → ρ q = none := fun q hq' => by
              cases e : ρ q with
              | none => rfl
              | some r => have := HT.out.sc.lt q (by rw [e]; simp); have := hqt q hq'; omega
            have hrl := HT.out.rf.lt
            have hbw := HT.out.below.size
            have hxl := HX.out.lt
            go_wp2_with fail
            refine (open_loose hT3.sc HB.out (by omega)).mono ?_
            rintro e w4 ⟨v4, rfl, ρ4, hsc4, hm4⟩
            obtain ⟨hsct4, hdis4⟩ := hsct.other hm4 hdis
            have hT4 := hT3.goA hsc4 hm4
            have hX4 := hX3.goA hm4
            have y3 := hX4.c1
            have y4 := hX4.c2
            clear x1 x2
            go_wp2_with fail
            refine (declare_loose hT4.sc HB.out.opened (by omega) true _ (by rw [ByteArray.size_append]; exact hyl)).mono ?_
            rintro e w5 ⟨v5, rfl, ρ5, hsc5, hm5⟩
            obtain ⟨hsct5, hdis5⟩ := hsct4.other hm5 hdis4
            have hT5 := hT4.goA hsc5 hm5
            have hX5 := hX4.goA hm5
            have y5 := hX5.c2
            clear y3 y4
            have hB5 := HB.out.opened.decl' (xn ++ ⟨#[120]⟩) true
            go_wp2_with fail
            refine (declare_loose hT5.sc hB5 (by omega) (!xt) ask hos).mono ?_
            rintro e w6 ⟨v6, rfl, ρ6, hsc6, hm6⟩
            obtain ⟨hsct6, hdis6⟩ := hsct5.other hm6 hdis5
            have hT6 := hT5.goA hsc6 hm6
            have hX6 := hX5.goA hm6
            have hT7 := hT6.swap hsct6 hqt (by simpa using hbw) (fun q hq' => hrl q hq')
            have hX7 : Beside w6 ρt ρr wr.heap.size 2 xn xt := ⟨hX6.c0, hX6.c1, hX6.c2, hX6.lt, by
              cases e : ρt wr.heap.size with
              | none => rfl
              | some r => have := hqt wr.heap.size (by rw [e]; simp); omega, hX6.nor⟩
            have HT4 := Lib.hid hT7
            have HX4 := Lib.hid hX7
            have HB4 := Lib.hid (HB.out.mono (Nat.le_succ k))
            have HI4 := Lib.hid HI.out
            have HS4 := Lib.hid (HSA.out.mono (Nat.le_succ k))
            clear hT7 hX7 hX6 hT6 hdis6 hsct6 hsc6 hm6 hB5 y5 hX5 hT5 hdis5 hsct5 hsc5 hm5 hX4 hT4 hdis4 hsct4 hsc4 hm4 hdis hX3 hT3 hsct hbt hqt hrl
            obtain ⟨v1, q2, q4⟩ := asks HT4.out HB4.out HS4.out (by omega) ask hos
            obtain ⟨v2, q3, q5⟩ := asks HT4.out HB4.out HS4.out (by omega) xn hys
            have q1 := blocksQ HT4.out.sc _ HS4.out.size
            have z0 := HT4.out.rf.c0
            have z1 := HX4.out.c1
            have z2 := HX4.out.c2
            have Q1 := Lib.hid q1
            have Q2 := Lib.hid q2
            have Q3 := Lib.hid q3
            have Q4 := Lib.hid q4
            have Q5 := Lib.hid q5
            clear q1 q2 q3 q4 q5
            go_wp2
            go_quiet (first | (go_at_call 18; exact Q1.out _) | (go_at_call_of 12 (Value.string ask); exact Q2.out _) | (go_at_call_of 12 (Value.string xn); exact Q3.out _) | (go_at_call_of 19 (Value.string ask); exact Q4.out _) | (go_at_call_of 19 (Value.string xn); exact Q5.out _))
            go_wp2
            go_roundw
            case rel => exact ⟨k + 1, tb, by omega, rfl, by go_num, _, _, _, _, _, _, HT4.out.drewN _, HB4.out, HI4.out, HS4.out⟩
            case measure => simp [intOf]; omega
          · have g2 : (xk == 2) = false := by simp [h2]
            clear h0 h1 h2
            obtain ⟨V, hV⟩ : ∃ V, (if xn.toList.isEmpty = true then (100 : Int) else 0) = V := ⟨_, rfl⟩
            have HV := Lib.hid hV
            clear hV
            go_wp2_with fail
            refine (declareA HT.out.sc HB.out (by omega) xt xn hys V HV.out).mono ?_
            rintro e w3 ⟨rfl, ρ3, hsc3, hm3⟩
            have hT3 := HT.out.goA hsc3 hm3
            have hX3 := HX.out.goA hm3
            have x1 := hX3.c1
            have x2 := hX3.c2
            have HT3 := Lib.hid hT3
            have HX3 := Lib.hid hX3
            clear hT3 hX3 hsc3 hm3
            go_wp2_with fail
            refine (declRV HT3.out.rf (by have := HM.out; omega) (by have := HM.out; omega) (by omega) xt xn V HV.out).mono ?_
            rintro e w4 ⟨rfl, ρ4, hrf4, hm4⟩
            have HT4 := Lib.hid (HT3.out.goR hrf4 hm4)
            have HX4 := Lib.hid (HX3.out.goR hm4)
            clear hrf4 hm4 x1 x2
            have HB4 := Lib.hid (HB.out.decl' xn xt)
            have HI4 := Lib.hid (HI.out.decl' hpos xn xt)
            have HS4 := Lib.hid (HSA.out.decl (by have := HM.out; omega) xn xt)
            obtain ⟨v1, q2, q4⟩ := asks HT4.out HB4.out HS4.out (by omega) ask hos
            obtain ⟨v2, q3, q5⟩ := asks HT4.out HB4.out HS4.out (by omega) xn hys
            have q1 := blocksQ HT4.out.sc _ HS4.out.size
            have z0 := HT4.out.rf.c0
            have z1 := HX4.out.c1
            have z2 := HX4.out.c2
            have Q1 := Lib.hid q1
            have Q2 := Lib.hid q2
            have Q3 := Lib.hid q3
            have Q4 := Lib.hid q4
            have Q5 := Lib.hid q5
            clear q1 q2 q3 q4 q5
            go_wp2
            go_quiet (first | (go_at_call 18; exact Q1.out _) | (go_at_call_of 12 (Value.string ask); exact Q2.out _) | (go_at_call_of 12 (Value.string xn); exact Q3.out _) | (go_at_call_of 19 (Value.string ask); exact Q4.out _) | (go_at_call_of 19 (Value.string xn); exact Q5.out _))
            go_wp2
            go_roundw
            case rel => exact ⟨k + 1, sb, by omega, rfl, by go_num, _, _, _, _, _, _, HT4.out.drewN _, HB4.out, HI4.out, HS4.out⟩
            case measure => simp [intOf]; omega
    · obtain rfl : k = n := by omega
      obtain ⟨ρ, nm, bl, ρr, many, all, hT, hB, hI, hS⟩ := hp
      have HT := Lib.hid hT
      have HB := Lib.hid hB
      have HSA := Lib.hid hS
      clear hT hB hI hS hkn
      go_wp2_with fail
      go_loopw [12] (fun i wz => ∃ j nq : Nat, j ≤ k ∧ i = .int .i64 j ∧ wz = wr.drewN nq) (fun i _ => k - (intOf i).toNat)
      case atStart => exact ⟨0, 0, Nat.zero_le _, rfl, rfl⟩
      case round =>
        obtain ⟨j, nq0, hj, rfl, hwr⟩ := hrel
        subst hwr
        obtain ⟨w7, hw7⟩ : ∃ w7, wr.drewN nq0 = w7 := ⟨_, rfl⟩
        have hT7 := HT.out.drewN nq0
        rw [hw7] at hT7 ⊢
        have HW7 := Lib.hid hw7
        clear hw7
        by_cases hjn : j < k
        · obtain ⟨b, off, rfl, _, y1, _, hys⟩ := HS.out.at hT7.below j hjn
          generalize (st j).2.1 = yn at y1 hys
          obtain ⟨v, q1, q2⟩ := asks hT7 HB.out HSA.out (by omega) yn hys
          have Q1 := Lib.hid q1
          have Q2 := Lib.hid q2
          clear q1 q2 hT7
          go_wp2
          go_quiet (first | (go_at_call 12; exact Q1.out _) | (go_at_call 19; exact Q2.out _))
          go_wp2
          go_roundw
          case rel => exact ⟨j + 1, nq0 + nq, by omega, by go_num, by rw [← HW7.out, World.drewN_drewN]⟩
          case measure => simp [intOf]; omega
        · have q1 := blocksQ hT7.sc _ HSA.out.size
          have z0 := hT7.rf.c0
          have HBW := Lib.hid hT7.below
          have Q1 := Lib.hid q1
          clear q1 hT7
          obtain rfl : j = k := by omega
          clear hjn
          go_wp2
          go_quiet (first | (go_at_call 18; exact Q1.out _))
          go_wp2
          go_ret
          exact ⟨rfl, drewN_below HBW.out _⟩

theorem plays_any (a : Option Addr) (n c : Nat) (st : Nat → Int × ByteArray × Bool) (ask : ByteArray) (w : World) (hs : IsSteps w a n st) (hsz : ∀ i, i < n → (st i).2.1.size + 1 ≤ maxLen) (hos : ask.size ≤ maxLen) :
    Calls Try.prog 4 #[.slice a n c, .string ask] w fun e w' => e = .returned (.bool true) ∧ Below w.heap.size w w' := by
  by_cases hn : (1000 : Int) < (n : Int)
  · exact plays_long a n c ask w hn
  · exact plays_main a n c st ask w hs hsz hn hos
end Go.Proofs.Ytanblanoaahcfaa
