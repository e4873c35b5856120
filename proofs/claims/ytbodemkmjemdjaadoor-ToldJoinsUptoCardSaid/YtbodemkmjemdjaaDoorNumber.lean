/-
  What number answers: a number that a text spells, and whether it may stand.
-/
import Derived.Test.YtbodemkmjemdjaaDoorText
import Derived.Test.YtbodemkmjemdjaaDoorShelf2
namespace Go.Proofs.YtbodemkmjemdjaaDoor
open Go.RowKit

def numOk (s : ByteArray) (v least : Int) : Bool := decide (least ≤ v) && decide (v ≤ 65537) && decide ((Lib.itoa v) = s.data.toList)
/-- The variables strconv.ErrSyntax, strconv.ErrRange hold errors. -/
def Errs (w : World) : Prop := ∃ e6 e7 : Value, w.cell? ⟨6, 0, none⟩ = some e6 ∧ w.cell? ⟨7, 0, none⟩ = some e7 ∧ (e6 = .nilIface ∨ ∃ te pe, e6 = .iface te pe) ∧ (e7 = .nilIface ∨ ∃ te pe, e7 = .iface te pe)
theorem Errs.later {w w' : World} (h : Errs w) (hb : Below w.heap.size w w') : Errs w' := by
  obtain ⟨a, b, h1, h2, h3, h4⟩ := h
  exact ⟨a, b, cell_later hb h1, cell_later hb h2, h3, h4⟩

def numF (s : ByteArray) (least : Int) : Option Int := match Lib.atoiAll s.data.toList with
  | .ok v => if numOk s v least = true then some v else none
  | _ => none

set_option maxHeartbeats 2000000 in
theorem number_err (s : ByteArray) (least : Int) (w : World)
    (h : Calls Tryd.prog 72 #[.string s] w fun e w' => (∃ z N, e = .returned (.tuple #[.int .i64 z, .iface 137 (.pointer (some ⟨N, 0, none⟩))])) ∧ Below w.heap.size w w') :
    Calls Tryd.prog 58 #[.string s, .int .i64 least] w fun e w' => (∃ z, e = .returned (.tuple #[.int .i64 z, .bool false])) ∧ Below w.heap.size w w' := by
  have H := Lib.hid h
  clear h
  go_enter Tryd.func58, Tryd.ntmps58
  go_wp2_with fail
  refine H.out.mono ?_
  rintro e w1 ⟨⟨z, N, rfl⟩, hb1⟩
  go_wp2
  go_ret2
  exact ⟨⟨_, rfl⟩, hb1⟩

theorem run_eqs (x y : ByteArray) (w : World) : Sem.run Tryd.prog (binOp BinOp.eql 9 (Value.string x) (Value.string y)) w = .ok (.bool (x.toList == y.toList)) w := rfl

set_option maxHeartbeats 4000000 in
theorem number_ok (s : ByteArray) (least v : Int) (w : World) (hs : s.size ≤ 9000000) (hl : 0 ≤ least) (hv : Lib.atoiAll s.data.toList = .ok v) (hp : Pow10 w) :
    Calls Tryd.prog 58 #[.string s, .int .i64 least] w fun e w' => e = .returned (.tuple #[.int .i64 v, .bool (numOk s v least)]) ∧ Below w.heap.size w w' := by
  have h : Calls Tryd.prog 72 #[.string s] w fun e w' => e = .returned (.tuple #[.int .i64 v, .nilIface]) ∧ Below w.heap.size w w' := by
    refine (Tryd.strconv_Atoi_ok s (by omega) v hv w).mono ?_
    rintro e w' ⟨rfl, rfl | ⟨t, rfl⟩⟩
    · exact ⟨rfl, Below.refl _ _⟩
    · exact ⟨rfl, ⟨rfl, rfl, rfl, by rw [Lib.bytesWorld_size]; omega, fun j hj => Lib.bytesWorld_at_old w 5 t j hj⟩⟩
  have H := Lib.hid h
  have HP := Lib.hid hp
  clear h hv hp
  by_cases h1 : least ≤ v
  · by_cases h2 : v ≤ 65537
    · have hit := fun W (hW : Below w.heap.size w W) => itoa_str v (by omega) (by omega) W (pow10_below HP.out hW)
      obtain ⟨i1, hi1⟩ : ∃ i1 : ByteArray, (⟨(Lib.itoa v).toArray⟩ : ByteArray) = i1 := ⟨_, rfl⟩
      have hno : numOk s v least = (i1.toList == s.toList) := by
        unfold numOk
        rw [decide_eq_true h1, decide_eq_true h2, ← hi1, ByteArray.toList_eq, ByteArray.toList_eq]
        rw [Bool.true_and, Bool.true_and]
        show decide (Lib.itoa v = s.data.toList) = (Lib.itoa v == s.data.toList)
        rw [Bool.eq_iff_iff]
        simp
      rw [hi1] at hit
      have HIT := Lib.hid hit
      have HNO := Lib.hid hno
      clear hit hno hi1
      go_enter Tryd.func58, Tryd.ntmps58
      go_wp2_with fail
      refine H.out.mono ?_
      rintro e w1 ⟨rfl, hb1⟩
      have HB := Lib.hid hb1
      clear hb1
      go_wp2_with (first | (go_at_call 21; refine (HIT.out _ HB.out).mono ?_; rintro e2 w2 ⟨rfl, hb2⟩) | fail)
      go_ret2
      exact ⟨by rw [HNO.out]; rfl, HB.out.trans (hb2.mono HB.out.size)⟩
    · have g2 : decide (v ≤ 65537) = false := by simpa using h2
      have hno : numOk s v least = false := by unfold numOk; rw [g2]; simp
      have HNO := Lib.hid hno
      clear hno
      go_enter Tryd.func58, Tryd.ntmps58
      go_wp2_with fail
      refine H.out.mono ?_
      rintro e w1 ⟨rfl, hb1⟩
      go_wp2
      go_ret2
      exact ⟨by rw [HNO.out]; rfl, hb1⟩
  · have g1 : decide (least ≤ v) = false := by simpa using h1
    have hno : numOk s v least = false := by unfold numOk; rw [g1]; simp
    have HNO := Lib.hid hno
    clear hno
    go_enter Tryd.func58, Tryd.ntmps58
    go_wp2_with fail
    refine H.out.mono ?_
    rintro e w1 ⟨rfl, hb1⟩
    go_wp2
    go_ret2
    exact ⟨by rw [HNO.out]; rfl, hb1⟩

theorem number_any (s : ByteArray) (least : Int) (w : World) (hs : s.size ≤ 9000000) (hl : 0 ≤ least) (hp : Pow10 w) (he : Errs w) :
    Calls Tryd.prog 58 #[.string s, .int .i64 least] w fun e w' => (∃ z, e = .returned (.tuple #[.int .i64 z, .bool (numF s least).isSome]) ∧ ∀ v, numF s least = some v → z = v) ∧ Below w.heap.size w w' := by
  obtain ⟨e6, e7, q6, q7, r6, r7⟩ := he
  cases h : Lib.atoiAll s.data.toList with
  | ok v =>
    have hn : numF s least = if numOk s v least = true then some v else none := by unfold numF; rw [h]
    refine (number_ok s least v w hs hl h hp).mono ?_
    rintro e w' ⟨rfl, hb⟩
    refine ⟨⟨v, ?_, ?_⟩, hb⟩
    · rw [hn]; cases numOk s v least <;> rfl
    · intro v' hv'
      rw [hn] at hv'
      split at hv'
      · simpa using hv'
      · cases hv'
  | range =>
    have hn : numF s least = none := by unfold numF; rw [h]
    refine (number_err s least w ((Tryd.strconv_Atoi_range s (by omega) h e7 w q7 r7).mono ?_)).mono ?_
    · rintro e w' ⟨N, rfl, _, _, hb⟩
      exact ⟨⟨_, _, rfl⟩, hb⟩
    · rintro e w' ⟨⟨z, rfl⟩, hb⟩
      exact ⟨⟨z, by rw [hn]; rfl, fun v hv => by rw [hn] at hv; cases hv⟩, hb⟩
  | _ =>
    have hn : numF s least = none := by unfold numF; rw [h]
    refine (number_err s least w ((Any.strconv_Atoi_syntax Tryd.laysC172 s (by omega) h e6 w q6 r6).mono ?_)).mono ?_
    · rintro e w' ⟨N, rfl, _, _, hb⟩
      exact ⟨⟨_, _, rfl⟩, hb⟩
    · rintro e w' ⟨⟨z, rfl⟩, hb⟩
      exact ⟨⟨z, by rw [hn]; rfl, fun v hv => by rw [hn] at hv; cases hv⟩, hb⟩

end Go.Proofs.YtbodemkmjemdjaaDoor
