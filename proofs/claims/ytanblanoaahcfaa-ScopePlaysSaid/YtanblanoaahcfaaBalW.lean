/-
  The walk of ScopeBalances: it returns true and leaves old memory as it was.
-/
import Derived.Test.YtanblanoaahcfaaPlay
namespace Go.Proofs.Ytanblanoaahcfaa
open Go.RowKit

set_option maxHeartbeats 400000 in
theorem bal_long (a : Option Addr) (n c : Nat) (a2 : Option Addr) (n2 c2 : Nat) (name : ByteArray) (w : World) (hn : (1000 : Int) < (n : Int)) :
    Calls Try.prog 6 #[.slice a n c, .slice a2 n2 c2, .string name] w fun e w' => e = .returned (.bool true) ∧ Below w.heap.size w w' := by
  go_enter Try.func6, Try.ntmps6
  go_wp2_with fail
  refine (alive_any _).mono ?_
  rintro e w1 ⟨rfl, hb1⟩
  go_wp2
  go_ret
  exact ⟨rfl, hb1⟩

set_option maxHeartbeats 400000 in
theorem bal_long2 (a : Option Addr) (n c : Nat) (a2 : Option Addr) (n2 c2 : Nat) (name : ByteArray) (w : World) (hn : ¬ (1000 : Int) < (n : Int)) (hn2 : (1000 : Int) < (n2 : Int)) :
    Calls Try.prog 6 #[.slice a n c, .slice a2 n2 c2, .string name] w fun e w' => e = .returned (.bool true) ∧ Below w.heap.size w w' := by
  have hd : decide ((1000 : Int) < (n : Int)) = false := by simpa using hn
  go_enter Try.func6, Try.ntmps6
  go_wp2_with fail
  refine (alive_any _).mono ?_
  rintro e w1 ⟨rfl, hb1⟩
  go_wp2
  go_ret
  exact ⟨rfl, hb1⟩

/-- The steps ahead under way. -/
def Playing2 (w wr : World) (sb k : Nat) : Prop := ∃ ρ nm bl, Sc wr sb ρ nm bl ∧ Bd k nm bl ∧ Inv nm bl ∧ (∀ q, ρ q ≠ none → w.heap.size ≤ q) ∧ Below w.heap.size w wr

theorem Inv.toBal {nm bl} (h : Inv nm bl) : Bal bl.length nm bl nm (bl ++ [[]]) := by
  have ho : Inv nm (bl ++ [[]]) := by
    by_cases e : bl.length = 65536
    · refine ⟨h.rise, fun s a ha => by have := h.lt s a ha; simp; omega, ?_, ?_⟩
      · intro l hl
        rcases List.mem_append.1 hl with h1 | h1
        · exact h.nodup l h1
        · simp at h1; subst h1; simp
      · intro i l s hi
        rw [List.getElem?_append] at hi
        split at hi
        · exact h.mem i l s hi
        · rcases hd : i - bl.length with _ | j
          · rw [hd] at hi; simp at hi; subst hi
            refine ⟨fun h1 => by simp at h1, ?_⟩
            rintro ⟨b, hb⟩
            have := h.lt s _ hb
            simp at this; omega
          · rw [hd] at hi; simp at hi
    · have := h.opened
      unfold openB at this
      rwa [if_neg e] at this
  refine ⟨ho, by simp, fun s => List.filter_eq_self.2 (fun a ha => by simpa using h.lt s a ha), by simp⟩

theorem open_loose {w : World} {sb ρ nm bl k} (h : Sc w sb ρ nm bl) (hB : Bd k nm bl) (hk : k < 900000) :
    Calls Try.prog 9 #[.pointer (some ⟨sb, 0, none⟩)] w fun e w' => ∃ v : Int, e = .returned (.int .i64 v) ∧ Goes w sb ρ nm (openB bl) w' :=
  (open_sc h hB hk).mono fun _ _ ⟨h1, h2⟩ => ⟨_, h1, h2⟩

theorem close_loose {w : World} {sb ρ nm bl k} (h : Sc w sb ρ nm bl) (hB : Bd k nm bl) (hI : Inv nm bl) (hk : k < 800000) :
    Calls Try.prog 15 #[.pointer (some ⟨sb, 0, none⟩)] w fun e w' => ∃ v : Int, e = .returned (.int .i64 v) ∧ Goes w sb ρ (closeNm bl nm) (closeBl bl) w' :=
  (close_sc h hB hI hk).mono fun _ _ ⟨h1, h2⟩ => ⟨_, h1, h2⟩

set_option maxHeartbeats 4000000 in
theorem bal_main (a : Option Addr) (n c : Nat) (st : Nat → Int × ByteArray × Bool) (a2 : Option Addr) (n2 c2 : Nat) (st2 : Nat → Int × ByteArray × Bool) (name : ByteArray) (w : World) (hs : IsSteps w a n st) (hs2 : IsSteps w a2 n2 st2) (hn : ¬ (1000 : Int) < (n : Int)) (hn2 : ¬ (1000 : Int) < (n2 : Int)) (hos : name.size ≤ maxLen) :
    Calls Try.prog 6 #[.slice a n c, .slice a2 n2 c2, .string name] w fun e w' => e = .returned (.bool true) ∧ Below w.heap.size w w' := by
  have hd : decide ((1000 : Int) < (n : Int)) = false := by simpa using hn
  have hd2 : decide ((1000 : Int) < (n2 : Int)) = false := by simpa using hn2
  have HS := Lib.hid hs; clear hs
  have HS2 := Lib.hid hs2; clear hs2
  go_enter Try.func6, Try.ntmps6
  go_wp2_with fail
  refine (alive_any _).mono ?_
  rintro e w1 ⟨rfl, hb1⟩
  go_wp2_with fail
  refine (new_any w1).mono ?_
  rintro e w2 ⟨sb, ρ, rfl, hsc1, hm1⟩
  obtain ⟨hb2, hq1⟩ := hm1.below (w := w) hb1 (by simp)
  have HP0 := Lib.hid (show Playing2 w w2 sb 0 from ⟨ρ, _, _, hsc1, Bd.new, Inv.new, hq1, hb2⟩)
  clear hsc1 hm1 hq1 hb2 hb1
  go_wp2_with fail
  go_loopw [9] (fun i wr => ∃ k : Nat, k ≤ n ∧ i = .int .i64 k ∧ Playing2 w wr sb k) (fun i _ => n - (intOf i).toNat)
  case atStart => exact ⟨0, Nat.zero_le _, rfl, HP0.out⟩
  case round =>
    clear HP0
    obtain ⟨k, hk, rfl, hp⟩ := hrel
    by_cases hkn : k < n
    · obtain ⟨ρ, nm, bl, hsc, hB, hI, hq, hb⟩ := hp
      obtain ⟨b, off, rfl, y0, y1, y2, hys⟩ := HS.out.at hb k hkn
      have hblt : b < w.heap.size := by
        rcases HS.out with h | ⟨b', off', e, hlt, _⟩
        · omega
        · simp only [Option.some.injEq, Addr.mk.injEq] at e
          omega
      have HSC := Lib.hid hsc; clear hsc
      have HB := Lib.hid hB; clear hB
      have HI := Lib.hid hI; clear hI
      have HQ := Lib.hid hq; clear hq
      have HBL := Lib.hid hb; clear hb
      generalize (st k).1 = yk at y0
      generalize (st k).2.1 = yn at y1 hys
      generalize (st k).2.2 = yt at y2
      by_cases h0 : yk = 0
      · have g0 : (yk == 0) = true := by simp [h0]
        clear h0
        go_wp2_with (first
          | (go_at_call 9
             refine (open_sc HSC.out HB.out (by omega)).mono ?_
             rintro e w3 ⟨rfl, ρ3, hsc3, hm3⟩
             have HSC3 := Lib.hid hsc3
             have HM3 := Lib.hid hm3
             clear hsc3 hm3)
          | go_in)
        obtain ⟨hb3, hq3⟩ := HM3.out.below HBL.out HQ.out
        go_roundw
        case rel => exact ⟨k + 1, by omega, by go_num, ρ3, _, _, HSC3.out, HB.out.opened, HI.out.opened, hq3, hb3⟩
        case measure => simp [intOf]; omega
      · have g0 : (yk == 0) = false := by simp [h0]
        by_cases h1 : 1 < yk
        · have g1 : decide (1 < yk) = true := by simpa using h1
          clear h0
          go_wp2
          go_region_held3 (fun w' : World => w'.cell? ⟨b, off + k * 3 + 1, none⟩ = some (.string yn) ∧ w'.cell? ⟨b, off + k * 3 + 2, none⟩ = some (.bool yt)) (first | exact ⟨‹_›, ‹_›⟩ | go_keep) (first
            | (go_at_call 10
               refine (declare_loose (HSC.out.drewN 1) HB.out (by omega) yt yn hys).mono ?_
               rintro e w3 ⟨v, rfl, ρ3, hsc3, hm3⟩
               have hbm := (Moves.below (w := w) HBL.out.drew hm3 HQ.out).1
               have z1 := keptCell HBL.out.drew hbm hblt y1
               have z2 := keptCell HBL.out.drew hbm hblt y2
               clear hbm
               have HSC3 := Lib.hid hsc3
               have HM3 := Lib.hid hm3
               clear hsc3 hm3)
            | fail)
          go_wp2
          obtain ⟨hb3, hq3⟩ := HM3.out.below (w := w) (HBL.out.drew) HQ.out
          go_roundw
          case rel => exact ⟨k + 1, by omega, by go_num, ρ3, _, _, HSC3.out, HB.out.decl' yn yt, HI.out.decl' HB.out.pos yn yt, hq3, hb3⟩
          case measure => simp [intOf]; omega
        · have g1 : decide (1 < yk) = false := by simpa using h1
          clear h0 h1
          go_wp2
          go_roundw
          case rel => exact ⟨k + 1, by omega, by go_num, ρ, _, _, HSC.out, HB.out.mono (by omega), HI.out, HQ.out, HBL.out⟩
          case measure => simp [intOf]; omega
    · obtain rfl : k = n := by omega
      obtain ⟨ρ, nm, bl, hsc, hB, hI, hq, hb⟩ := hp
      have HSC := Lib.hid hsc; clear hsc
      have HB := Lib.hid hB; clear hB
      have HI := Lib.hid hI; clear hI
      have HQ := Lib.hid hq; clear hq
      have HBL := Lib.hid hb; clear hb
      clear hkn
      go_wp2_with fail
      refine (copy_sc HSC.out HB.out (by omega)).mono ?_
      rintro e w3 ⟨tb, ρt, rfl, hsct, hbt, hqt⟩
      have hsc3 := HSC.out.frame hbt.size (fun q hq' => hbt.block q (HSC.out.lt q hq'))
      have hdis : ∀ q, ρt q ≠ none → ρ q = none := fun q hq' => by
        cases e : ρ q with
        | none => rfl
        | some r => have := HSC.out.lt q (by rw [e]; simp); have := hqt q hq'; omega
      have hb3 := HBL.out.trans (hbt.mono HBL.out.size)
      go_wp2_with fail
      refine (open_loose hsc3 HB.out (by omega)).mono ?_
      rintro e w4 ⟨v4, rfl, ρ4, hsc4, hm4⟩
      have hlen := HB.out.len
      have hpos := HB.out.pos
      have ho : openB bl = bl ++ [[]] := by unfold openB; rw [if_neg (by omega)]
      have hB4 : Bd (k + 1) nm (bl ++ [[]]) := by have := HB.out.opened; rwa [ho] at this
      rw [ho] at hsc4
      obtain ⟨hsct4, hdis4⟩ := hsct.other hm4 hdis
      obtain ⟨hb4, hq4⟩ := hm4.below (w := w) hb3 HQ.out
      have hg4 : Guard w4 w4 ρ4 (fun q => q < w.heap.size ∨ ρt q ≠ none) := by
        refine ⟨rfl, rfl, rfl, Nat.le_refl _, fun q hq' => ⟨?_, rfl⟩, fun q hq' => ?_⟩
        · rcases hq' with h1 | h1
          · cases e : ρ4 q with
            | none => rfl
            | some r => have := hq4 q (by rw [e]; simp); omega
          · exact hdis4 q h1
        · rcases hq' with h1 | h1
          · have := hb4.size; omega
          · exact hsct4.lt q h1
      have hst2 : StepsT w4 (fun q => q < w.heap.size ∨ ρt q ≠ none) a2 n2 st2 := HS2.out.toT hb4 (fun q hq' => .inl hq')
      go_wp2_with fail
      refine (play_any w4 (fun q => q < w.heap.size ∨ ρt q ≠ none) sb (k + 1) bl.length nm bl a2 n2 c2 st2 (by omega) (by omega) (by omega) hst2 ρ4 nm (bl ++ [[]]) hsc4 hB4 HI.out.toBal (by simp) hg4).mono ?_
      rintro e w5 ⟨rfl, ρ5, nm5, bl5, hsc5, hB5, hbal5, hl5, hg5⟩
      go_wp2_with fail
      refine (close_loose hsc5 hB5 hbal5.inv (by omega)).mono ?_
      rintro e w6 ⟨v6, rfl, ρ6, hsc6, hm6⟩
      obtain ⟨en, eb⟩ := hbal5.last hl5 hpos
      rw [en, eb] at hsc6
      have hg6 := hg5.step hm6
      have hsct6 : Sc w6 tb ρt nm bl := hsct4.frame hg6.size (fun q hq' => (hg6.kept q (.inr hq')).2)
      have hb6 : Below w.heap.size w w6 := ⟨hg6.os.trans hb4.os, hg6.tape.trans hb4.tape, hg6.output.trans hb4.output, Nat.le_trans hb4.size hg6.size, fun q hq' => ((hg6.kept q (.inl hq')).2).trans (hb4.block q hq')⟩
      have HSC6 := Lib.hid hsc6
      have HT6 := Lib.hid hsct6
      have HB6 := Lib.hid hb6
      clear hsc6 hsct6 hb6 hg6 en eb hm6 hg5 hl5 hbal5 hB5 hsc5 hst2 hg4 hq4 hb4 hdis4 hsct4 hB4 ho hm4 hsc4 hb3 hdis hsc3 hqt hbt hsct HSC HQ HBL
      have hnb := HB.out.names
      have HNB := Lib.hid hnb
      clear hnb
      go_wp2_with fail
      go_loopw [11] (fun i wr => ∃ j nq : Nat, j ≤ n2 ∧ i = .int .i64 j ∧ wr = w6.drewN nq) (fun i _ => n2 - (intOf i).toNat)
      case atStart => exact ⟨0, 0, Nat.zero_le _, rfl, rfl⟩
      case round =>
        obtain ⟨j, nq0, hj, rfl, hwr⟩ := hrel
        subst hwr
        obtain ⟨w7, hw7⟩ : ∃ w7, w6.drewN nq0 = w7 := ⟨_, rfl⟩
        have hq0 := HSC6.out.drewN nq0
        have hq1 := HT6.out.drewN nq0
        have hB6 : Below w.heap.size w (w6.drewN nq0) := drewN_below HB6.out nq0
        rw [hw7] at hq0 hq1 hB6 ⊢
        have HW7 := Lib.hid hw7
        clear hw7
        by_cases hjn : j < n2
        · obtain ⟨b, off, rfl, _, y1, _, hys⟩ := HS2.out.at hB6 j hjn
          generalize (st2 j).2.1 = yn at y1 hys
          have q1 := isTypeQ hq0 yn hys (by have := HNB.out yn; omega) _ rfl
          have q2 := isTypeQ hq1 yn hys (by have := HNB.out yn; omega) _ rfl
          generalize lastB (nm yn) = v1 at q1 q2
          have Q1 := Lib.hid q1
          have Q2 := Lib.hid q2
          clear q1 q2 hq0 hq1
          go_wp2
          go_quiet (first | (go_at_call_of 12 (Value.pointer (some (Addr.mk sb 0 none))); exact Q1.out _) | (go_at_call_of 12 (Value.pointer (some (Addr.mk tb 0 none))); exact Q2.out _))
          go_wp2
          go_roundw
          case rel => exact ⟨j + 1, nq0 + nq, by omega, by go_num, by rw [← HW7.out, World.drewN_drewN]⟩
          case measure => simp [intOf]; omega
        · have hs0 := isType_sc hq0 name hos (by have := HNB.out name; omega)
          have hs1 := isType_sc hq1 name hos (by have := HNB.out name; omega)
          have hbs0 := blocks_sc hq0 _ rfl
          have hbs1 := blocks_sc hq1 _ rfl
          generalize lastB (nm name) = v1 at hs0 hs1
          have R0 := Lib.hid hs0
          have R1 := Lib.hid hs1
          have R2 := Lib.hid hbs0
          have R3 := Lib.hid hbs1
          have HB7 := Lib.hid hB6
          clear hs0 hs1 hbs0 hbs1 hq0 hq1 hB6
          obtain rfl : j = n2 := by omega
          clear hjn
          go_wp2_with (first
            | (go_at_call_of 18 (Value.pointer (some (Addr.mk sb 0 none))); refine R2.out.mono ?_; rintro e w8 ⟨rfl, rfl⟩)
            | (go_at_call_of 18 (Value.pointer (some (Addr.mk tb 0 none))); refine R3.out.mono ?_; rintro e w8 ⟨rfl, rfl⟩)
            | (go_at_call_of 12 (Value.pointer (some (Addr.mk sb 0 none))); refine R0.out.mono ?_; rintro e w8 ⟨rfl, rfl⟩)
            | (go_at_call_of 12 (Value.pointer (some (Addr.mk tb 0 none))); refine R1.out.mono ?_; rintro e w8 ⟨rfl, rfl⟩)
            | go_in)
          go_ret
          exact ⟨rfl, HB7.out⟩

theorem bal_any (a : Option Addr) (n c : Nat) (st : Nat → Int × ByteArray × Bool) (a2 : Option Addr) (n2 c2 : Nat) (st2 : Nat → Int × ByteArray × Bool) (name : ByteArray) (w : World) (hs : IsSteps w a n st) (hs2 : IsSteps w a2 n2 st2) (hos : name.size ≤ maxLen) :
    Calls Try.prog 6 #[.slice a n c, .slice a2 n2 c2, .string name] w fun e w' => e = .returned (.bool true) ∧ Below w.heap.size w w' := by
  by_cases hn : (1000 : Int) < (n : Int)
  · exact bal_long a n c a2 n2 c2 name w hn
  · by_cases hn2 : (1000 : Int) < (n2 : Int)
    · exact bal_long2 a n c a2 n2 c2 name w hn hn2
    · exact bal_main a n c st a2 n2 c2 st2 name w hs hs2 hn hn2 hos
end Go.Proofs.Ytanblanoaahcfaa
