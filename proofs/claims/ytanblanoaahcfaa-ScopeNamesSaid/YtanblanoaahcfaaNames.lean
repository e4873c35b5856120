/-
  The walk of ScopeNames: the examples of the chapter, calls on none and on a zero scope, and as many blocks as there may be; it returns true.
-/
import Derived.Test.YtanblanoaahcfaaBalW
namespace Go.Proofs.Ytanblanoaahcfaa
open Go.RowKit

set_option maxHeartbeats 400000 in
theorem none_nil (w : World) : Calls Try.prog 21 #[.pointer none] w fun e w' => e = .returned (.bool true) ∧ w = w' := by
  go_enter Try.func21, Try.ntmps21
  go_wp2
  go_ret
  exact ⟨rfl, rfl⟩

set_option maxHeartbeats 400000 in
theorem none_zero (zb : Nat) (w : World) (c0 : w.cell? ⟨zb, 0, none⟩ = some (.map none)) : Calls Try.prog 21 #[.pointer (some ⟨zb, 0, none⟩)] w fun e w' => e = .returned (.bool true) ∧ w = w' := by
  have q := mapNil
  go_enter Try.func21, Try.ntmps21
  go_wp2
  go_ret
  exact ⟨rfl, rfl⟩

set_option maxHeartbeats 400000 in
theorem open_nil (w : World) : Calls Try.prog 9 #[.pointer none] w fun e w' => e = .returned (.int .i64 1) ∧ w = w' := by
  go_enter Try.func9, Try.ntmps9
  go_wp2_with (first | (go_at_call 21; refine (none_nil _).mono ?_; rintro e w' ⟨rfl, rfl⟩) | go_in)
  go_ret
  exact ⟨rfl, rfl⟩

set_option maxHeartbeats 400000 in
theorem declare_nil (s : ByteArray) (t : Bool) (w : World) : Calls Try.prog 10 #[.pointer none, .string s, .bool t] w fun e w' => e = .returned (.int .i64 1) ∧ w = w' := by
  go_enter Try.func10, Try.ntmps10
  go_wp2_with (first | (go_at_call 21; refine (none_nil _).mono ?_; rintro e w' ⟨rfl, rfl⟩) | go_in)
  go_ret
  exact ⟨rfl, rfl⟩

set_option maxHeartbeats 400000 in
theorem isType_nil (s : ByteArray) (w : World) : Calls Try.prog 12 #[.pointer none, .string s] w fun e w' => e = .returned (.bool false) ∧ w = w' := by
  go_enter Try.func12, Try.ntmps12
  go_wp2_with (first | (go_at_call 21; refine (none_nil _).mono ?_; rintro e w' ⟨rfl, rfl⟩) | go_in)
  go_ret
  exact ⟨rfl, rfl⟩

set_option maxHeartbeats 400000 in
theorem blocks_zero (zb : Nat) (w : World) (c0 : w.cell? ⟨zb, 0, none⟩ = some (.map none)) : Calls Try.prog 18 #[.pointer (some ⟨zb, 0, none⟩)] w fun e w' => e = .returned (.int .i64 0) ∧ w = w' := by
  go_enter Try.func18, Try.ntmps18
  go_wp2_with (first | (go_at_call 21; refine (none_zero _ _ c0).mono ?_; rintro e w' ⟨rfl, rfl⟩) | go_in)
  go_ret
  exact ⟨rfl, rfl⟩

set_option maxHeartbeats 400000 in
theorem copy_zero (zb : Nat) (w : World) (c0 : w.cell? ⟨zb, 0, none⟩ = some (.map none)) : Calls Try.prog 11 #[.pointer (some ⟨zb, 0, none⟩)] w fun e w' => e = .returned (.pointer none) ∧ w = w' := by
  go_enter Try.func11, Try.ntmps11
  go_wp2_with (first | (go_at_call 21; refine (none_zero _ _ c0).mono ?_; rintro e w' ⟨rfl, rfl⟩) | go_in)
  go_ret
  exact ⟨rfl, rfl⟩

set_option maxHeartbeats 400000 in
theorem close_zero (zb : Nat) (w : World) (c0 : w.cell? ⟨zb, 0, none⟩ = some (.map none)) : Calls Try.prog 15 #[.pointer (some ⟨zb, 0, none⟩)] w fun e w' => e = .returned (.int .i64 1) ∧ w.alloc (.cells #[.pointer (some ⟨zb, 0, none⟩)] 26) = w' := by
  have hb : Below w.heap.size w (w.alloc (.cells #[.pointer (some ⟨zb, 0, none⟩)] 26)) := (Below.refl _ w).alloc (Nat.le_refl _) _
  have c1 := cell_later hb c0
  have hbox : (w.alloc (.cells #[.pointer (some ⟨zb, 0, none⟩)] 26)).cell? ⟨w.heap.size, 0, none⟩ = some (.pointer (some ⟨zb, 0, none⟩)) := box_cell _ _ _ _ _ rfl
  clear hb c0
  go_enter Try.func15, Try.ntmps15
  go_wp2_with (first | (go_at_call 21; refine (none_zero _ _ c1).mono ?_; rintro e w' ⟨rfl, rfl⟩) | go_in)
  go_ret
  exact ⟨rfl, rfl⟩

/-- The first scope's names and blocks, call by call. -/
def n1 := declN [[]] tName true (fun _ => [])
def b1 := declB (fun _ => []) tName [[]]
def b2 := openB b1
def n3 := declN b2 tName false n1
def b3 := declB n1 tName b2
def n4 := closeNm b3 n3
def b4 := closeBl b3
theorem b3_len : b3.length = 2 := by kernel_rfl
theorem b4_len : b4.length = 1 := by kernel_rfl
theorem n4_T : lastB (n4 tName) = true := by kernel_rfl

set_option maxRecDepth 100000 in
set_option maxHeartbeats 4000000 in
theorem names_walk (w : World) : Calls Try.prog 5 #[] w fun e w' => e = .returned (.bool true) ∧ Below w.heap.size w w' := by
  have hs0 : (⟨#[84]⟩ : ByteArray).toList.isEmpty = false := by kernel_rfl
  have hsz : (⟨#[84]⟩ : ByteArray).size ≤ maxLen := by decide
  go_enter Try.func5, Try.ntmps5
  go_wp2_with fail
  refine (new_any w).mono ?_
  rintro e w1 ⟨sb, ρ1, rfl, hsc1, hm1⟩
  obtain ⟨hb1, hq1⟩ := hm1.below (Below.refl _ w) (by simp)
  go_wp2_with fail
  refine (declare_sc hsc1 Bd.new (by omega) true _ hs0 hsz).mono ?_
  rintro e w2 ⟨rfl, ρ2, hsc2, hm2⟩
  obtain ⟨hb2, hq2⟩ := hm2.below hb1 hq1
  have hB2 : Bd 1 n1 b1 := Bd.new.decl ⟨#[84]⟩ true
  have hI2 : Inv n1 b1 := Inv.new.decl (by simp) ⟨#[84]⟩ true
  change Sc w2 sb ρ2 n1 b1 at hsc2
  go_wp2_with fail
  refine (open_loose hsc2 hB2 (by omega)).mono ?_
  rintro e w3 ⟨v3, rfl, ρ3, hsc3, hm3⟩
  obtain ⟨hb3, hq3⟩ := hm3.below hb2 hq2
  have hB3 : Bd 2 n1 b2 := hB2.opened
  have hI3 : Inv n1 b2 := hI2.opened
  change Sc w3 sb ρ3 n1 b2 at hsc3
  go_wp2_with fail
  refine (declare_sc hsc3 hB3 (by omega) false _ hs0 hsz).mono ?_
  rintro e w4 ⟨rfl, ρ4, hsc4, hm4⟩
  obtain ⟨hb4, hq4⟩ := hm4.below hb3 hq3
  have hB4 : Bd 3 n3 b3 := hB3.decl ⟨#[84]⟩ false
  have hI4 : Inv n3 b3 := hI3.decl hB3.pos ⟨#[84]⟩ false
  change Sc w4 sb ρ4 n3 b3 at hsc4
  clear hsc1 hm1 hb1 hq1 hsc2 hm2 hb2 hq2 hB2 hI2 hsc3 hm3 hb3 hq3 hB3 hI3 hm4
  go_wp2_with fail
  refine (close_sc hsc4 hB4 hI4 (by omega)).mono ?_
  rintro e w5 ⟨rfl, ρ5, hsc5, hm5⟩
  obtain ⟨hb5, hq5⟩ := hm5.below hb4 hq4
  have hB5 : Bd 3 n4 b4 := hB4.closed
  have hI5 : Inv n4 b4 := hI4.shut hB4.pos
  change Sc w5 sb ρ5 n4 b4 at hsc5
  rw [if_neg (by rw [b3_len]; decide)]
  go_wp2_with fail
  refine (isType_sc hsc5 _ hsz (by have := hB5.names ⟨#[84]⟩; omega)).mono ?_
  rintro e w6 ⟨rfl, rfl⟩
  have e1 : lastB (n4 ⟨#[84]⟩) = true := n4_T
  rw [e1]
  clear e1
  go_wp2_with fail
  refine (close_sc hsc5 hB5 hI5 (by omega)).mono ?_
  rintro e w6 ⟨rfl, ρ6, hsc6, hm6⟩
  obtain ⟨hb6, hq6⟩ := hm6.below hb5 hq5
  rw [if_pos b4_len]
  obtain ⟨mb6, bv6, M6, bs6, hsc6⟩ := hsc6
  clear hsc4 hB4 hI4 hb4 hq4 hsc5 hm5 hb5 hq5 hB5 hI5 hm6 hq6
  go_wp2_with fail
  refine (declare_empty hsc6 true ⟨#[]⟩ (by kernel_rfl)).mono ?_
  rintro e w7 ⟨rfl, rfl⟩
  clear hsc6
  -- a zero scope, and none
  have hb7 : Below w.heap.size w (w6.alloc (.cells #[.map none, .slice none 0 0] 43)) := hb6.alloc hb6.size _
  have z0 : (w6.alloc (.cells #[.map none, .slice none 0 0] 43)).cell? ⟨w6.heap.size, 0, none⟩ = some (.map none) := box_cell _ _ _ _ _ rfl
  obtain ⟨w8, hw8⟩ : ∃ w8, w6.alloc (.cells #[.map none, .slice none 0 0] 43) = w8 := ⟨_, rfl⟩
  rw [hw8] at hb7 z0
  have HW8 := Lib.hid hw8
  clear hw8
  go_wp2_with fail
  rw [HW8.out]
  refine (open_nil _).mono ?_
  rintro e w9 ⟨rfl, rfl⟩
  have hb9 : Below w.heap.size w (w8.alloc (.cells #[.pointer (some ⟨w6.heap.size, 0, none⟩)] 26)) := hb7.alloc hb7.size _
  have hb98 : Below w8.heap.size w8 (w8.alloc (.cells #[.pointer (some ⟨w6.heap.size, 0, none⟩)] 26)) := (Below.refl _ _).alloc (Nat.le_refl _) _
  have z1 := cell_later hb98 z0
  go_wp2_with fail
  refine (close_zero _ _ z0).mono ?_
  rintro e w9 ⟨rfl, hw9⟩
  rw [hw9] at hb9 hb98 z1
  have HW9 := Lib.hid hw9
  clear hw9
  go_wp2_with fail
  refine (declare_nil _ _ _).mono ?_
  rintro e w10 ⟨rfl, rfl⟩
  go_wp2_with fail
  refine (copy_zero _ _ z1).mono ?_
  rintro e w10 ⟨rfl, rfl⟩
  -- as many blocks as there may be
  go_wp2_with fail
  refine (new_any w9).mono ?_
  rintro e w10 ⟨tb, ρt, rfl, hsct, hmt⟩
  obtain ⟨hbt, hqt⟩ := hmt.below (Below.refl _ w9) (by simp)
  have HP := Lib.hid (show ∃ ρ bl, Sc w10 tb ρ (fun _ => []) bl ∧ Bd 0 (fun _ => []) bl ∧ bl.length = 0 + 1 ∧ (∀ q, ρ q ≠ none → w9.heap.size ≤ q) ∧ Below w9.heap.size w9 w10 from ⟨ρt, _, hsct, Bd.new, rfl, hqt, hbt⟩)
  clear hsct hmt hbt hqt hb6 hb7 hb98 z0
  go_wp2_with fail
  go_loopw [13] (fun i wr => ∃ k : Nat, k ≤ 65535 ∧ i = .int .i64 k ∧ ∃ ρ bl, Sc wr tb ρ (fun _ => []) bl ∧ Bd k (fun _ => []) bl ∧ bl.length = k + 1 ∧ (∀ q, ρ q ≠ none → w9.heap.size ≤ q) ∧ Below w9.heap.size w9 wr) (fun i _ => 65535 - (intOf i).toNat)
  case atStart => exact ⟨0, by omega, rfl, HP.out⟩
  case round =>
    clear HP
    obtain ⟨k, hk, rfl, ρ, bl, hsc, hB, hlen, hq, hb⟩ := hrel
    have HSC := Lib.hid hsc; clear hsc
    have HB := Lib.hid hB; clear hB
    have HL := Lib.hid hlen; clear hlen
    have HQ := Lib.hid hq; clear hq
    have HBL := Lib.hid hb; clear hb
    by_cases hlt : k < 65535
    · have hk9 : k < 900000 := by omega
      have g2 : decide ((k : Int) < 65535) = true := by simp; omega
      have g3 : (k : Int) + 1 ≤ 9223372036854775807 := by omega
      have HLT := Lib.hid hlt
      have HK := Lib.hid hk
      have HK9 := Lib.hid hk9
      clear hlt hk hk9
      go_wp2_with (first
        | (go_at_call 9
           refine (open_loose HSC.out HB.out HK9.out).mono ?_
           rintro e w11 ⟨v, rfl, ρ3, hsc3, hm3⟩
           have HSC3 := Lib.hid hsc3
           have HM3 := Lib.hid hm3
           clear hsc3 hm3)
        | go_in)
      obtain ⟨hb3, hq3⟩ := HM3.out.below HBL.out HQ.out
      have hl3 : (openB bl).length = k + 1 + 1 := by
        unfold openB
        rw [if_neg (by have := HL.out; have := HLT.out; omega)]
        simp [HL.out]
      have hlt := HLT.out
      go_roundw
      case rel => exact ⟨k + 1, by omega, by go_num, ρ3, _, HSC3.out, HB.out.opened, hl3, hq3, hb3⟩
      case measure => simp [intOf]; omega
    · have hk5 : k = 65535 := by omega
      subst hk5
      have z2 := cell_later HBL.out z1
      have hl6 : bl.length = 65536 := by have := HL.out; omega
      have hop := open_sc HSC.out HB.out (by omega)
      rw [if_pos hl6] at hop
      have hlo : (openB bl).length = 65536 := by unfold openB; rw [if_pos hl6]; exact hl6
      have HOP := Lib.hid hop
      have HLO := Lib.hid hlo
      clear hop hlo hl6 hlt hk
      go_wp2_with fail
      refine HOP.out.mono ?_
      rintro e w11 ⟨rfl, ρ3, hsc3, hm3⟩
      obtain ⟨hb3, hq3⟩ := hm3.below HBL.out HQ.out
      have z3 := cell_later hb3 z1
      have HSC3 := Lib.hid hsc3
      have HB3 := Lib.hid hb3
      clear hsc3 hm3 hb3 hq3 z2 z1
      go_wp2_with fail
      refine (alive_any _).mono ?_
      rintro e w12 ⟨rfl, hb12⟩
      have z4 := cell_later hb12 z3
      have hbk := blocks_sc (HSC3.out.frame hb12.size (fun q hq' => hb12.block q (HSC3.out.lt q hq'))) 65536 HLO.out
      have HBK := Lib.hid hbk
      have HB12 := Lib.hid (hb9.trans ((HB3.out.trans (hb12.mono HB3.out.size)).mono hb9.size))
      clear hbk hb12 z3
      go_wp2_with fail
      refine (isType_nil _ _).mono ?_
      rintro e w13 ⟨rfl, rfl⟩
      go_wp2_with fail
      refine (blocks_zero _ _ z4).mono ?_
      rintro e w13 ⟨rfl, rfl⟩
      go_wp2_with fail
      refine HBK.out.mono ?_
      rintro e w13 ⟨rfl, rfl⟩
      go_wp2
      go_ret
      exact ⟨rfl, HB12.out⟩
end Go.Proofs.Ytanblanoaahcfaa
