/-
  The iterator over a text's lines: each line in its order, for every loop body that keeps the variable in which the rest lies.
-/
import Derived.Test.YtbodemkmjemdjaaDoorRows
import Derived.Test.YtbodemkmjemdjaaDoorShelf
import Derived.Test.YtbodemkmjemdjaaDoorForEach
import Derived.WalkKit
import Derived.WalkSpells
import Derived.Lib.Hide
import Derived.Below
import Derived.OwnWalkIn
import Derived.TacticsInMore
import Derived.LoopNIn
import Derived.LoopIn
namespace Go.Proofs.YtbodemkmjemdjaaDoor
open Go.RowKit

attribute [local go_sem] Oper.semAt_some

/-- Where the first line of a text that is not empty ends. -/
def cutAt (s : ByteArray) : Nat := if Lib.indexByte s.data.toList 10 + 1 = 0 then s.size else (Lib.indexByte s.data.toList 10 + 1).toNat
def linesF : Nat → ByteArray → List ByteArray
  | 0, _ => []
  | f + 1, s => if s.size = 0 then [] else s.extract 0 (cutAt s) :: linesF f (s.extract (cutAt s) s.size)
def linesOf (s : ByteArray) : List ByteArray := linesF s.size s

theorem indexByte_lt (l : List UInt8) (c : UInt8) : Lib.indexByte l c < l.length := by
  induction l with
  | nil => simp [Lib.indexByte]
  | cons b l ih =>
    unfold Lib.indexByte
    split
    · simp
    · split
      · simp; omega
      · simp; omega

theorem cutAt_bounds (s : ByteArray) (h : s.size ≠ 0) : 1 ≤ cutAt s ∧ cutAt s ≤ s.size := by
  have h1 := Lib.indexByte_ge s.data.toList 10
  have h2 := indexByte_lt s.data.toList 10
  have h3 : s.data.toList.length = s.size := Array.length_toList
  unfold cutAt
  split <;> omega

/-- What the loop's body must keep: the rest's variable. -/
def KeepBox (B : Nat) (W W' : World) : Prop := W'.heap[B]? = W.heap[B]?
/-- The iterator's own step. -/
def BoxStep (B : Nat) (W W' : World) : Prop := ∃ s : ByteArray, W' = W.setCell ⟨B, 0, none⟩ (.string s)

theorem linesF_nil (f : Nat) (r : ByteArray) (h : r.size = 0) : linesF f r = [] := by
  cases f with
  | zero => rfl
  | succ f => unfold linesF; rw [if_pos h]

theorem linesF_step (f : Nat) (r : ByteArray) (h : r.size ≠ 0) (hf : r.size ≤ f) : ∃ f', linesF f r = r.extract 0 (cutAt r) :: linesF f' (r.extract (cutAt r) r.size) ∧ (r.extract (cutAt r) r.size).size ≤ f' := by
  obtain ⟨b1, b2⟩ := cutAt_bounds r h
  cases f with
  | zero => omega
  | succ f =>
    refine ⟨f, by conv => lhs; unfold linesF; rw [if_neg h], ?_⟩
    rw [ByteArray.size_extract]
    omega

def strSize : Value → Nat
  | .string r => r.size
  | _ => 0
def boxSize (B : Nat) (w : World) : Nat := match w.cell? ⟨B, 0, none⟩ with | some v => strSize v | none => 0
theorem boxSize_of {B : Nat} {w : World} {r : ByteArray} (h : w.cell? ⟨B, 0, none⟩ = some (.string r)) : boxSize B w = r.size := by
  unfold boxSize
  rw [h]; rfl

set_option maxRecDepth 100000 in
set_option maxHeartbeats 2000000 in
theorem lines1_in (n : Nat) (hn : 2 ≤ n) (l B : Nat) (s : ByteArray) (hs : s.size ≤ 9000000) (J : List ByteArray → World → Prop) (hJ : ∀ pre W1 W2, BoxStep B W1 W2 → J pre W1 → J pre W2)
    (hY : ∀ pre x W, J pre W → (pre ++ [x]) <+: linesOf s → YieldAt Fence.wide (n - 1) Tryd.prog l #[.string x] W fun e W' => e = .returned (.bool true) ∧ J (pre ++ [x]) W' ∧ KeepBox B W W')
    (W : World) (hB : W.heap[B]? = some (.cells #[.string s] 9 (0, 0))) (h0 : J [] W) :
    CallsIn Fence.wide n Tryd.prog 51 #[.func (.yield l) #[] #[], .pointer (some ⟨B, 0, none⟩)] W fun e W' => (∃ v, e = .returned v) ∧ J (linesOf s) W' := by
  have hro : Fence.wide.round = none := rfl
  refine callsIn_of_wp Tryd.func51 rfl trivial ?_ hro
  simp only [Tryd.ntmps51, List.size_toArray, List.length_cons, List.length_nil, Nat.reduceAdd, Nat.reduceSub, Array.replicate_succ, Array.replicate_zero, List.push_toArray, List.append_toArray, List.nil_append, List.cons_append]
  gi_wp2
  gi_loopw [3] (fun _ wr => ∃ (pre : List ByteArray) (r : ByteArray) (f : Nat), r.size ≤ f ∧ r.size ≤ 9000000 ∧ pre ++ linesF f r = linesOf s ∧ J pre wr ∧ wr.heap[B]? = some (.cells #[.string r] 9 (0, 0)))
    (fun _ wr => boxSize B wr)
  case atStart => exact ⟨[], s, s.size, Nat.le_refl _, hs, rfl, h0, hB⟩
  case round =>
    obtain ⟨pre, r, f, hf, hr9, hpre, hj, hbx⟩ := hrel
    have c0 : wr.cell? ⟨B, 0, none⟩ = some (.string r) := by simp [World.cell?, hbx]
    have HBX := Lib.hid hbx
    have HJ := Lib.hid hj
    have HP := Lib.hid hpre
    clear hbx hj hpre
    by_cases h0 : r.size = 0
    · have hE : r.toList = [] := by
        rw [ByteArray.toList_eq]
        exact List.eq_nil_of_length_eq_zero (by simpa using h0)
      have hp := HP.out
      rw [linesF_nil f r h0, List.append_nil] at hp
      have HP2 := Lib.hid hp
      clear hp
      gi_wp2
      go_end0
      exact ⟨⟨_, rfl⟩, by rw [← HP2.out]; exact HJ.out⟩
    · have hE : r.toList.isEmpty = false := by
        rw [ByteArray.toList_eq]
        cases e : r.data.toList with
        | nil =>
          have : r.data.toList.length = 0 := by rw [e]; rfl
          exact (h0 (by simpa using this)).elim
        | cons x l => rfl
      obtain ⟨f', hst, hf'⟩ := linesF_step f r h0 hf
      obtain ⟨b1, b2⟩ := cutAt_bounds r h0
      have hib := Tryd.strings_IndexByte r 10 wr
      rw [show (10 : Int).toNat.toUInt8 = 10 from rfl] at hib
      have hcut : cutAt r = if Lib.indexByte r.data.toList 10 + 1 = 0 then r.size else (Lib.indexByte r.data.toList 10 + 1).toNat := rfl
      have hge := Lib.indexByte_ge r.data.toList 10
      have hlt := indexByte_lt r.data.toList 10
      rw [show r.data.toList.length = r.size from Array.length_toList] at hlt
      generalize Lib.indexByte r.data.toList 10 = ib at hib hcut hge hlt
      obtain ⟨c, hc⟩ : ∃ c, cutAt r = c := ⟨_, rfl⟩
      rw [hc] at hst hf' b1 b2 hcut
      have hp := HP.out
      rw [hst] at hp
      have hpx : (pre ++ [r.extract 0 c]) <+: linesOf s := by
        rw [← hp, show pre ++ r.extract 0 c :: linesF f' (r.extract c r.size) = (pre ++ [r.extract 0 c]) ++ linesF f' (r.extract c r.size) from by simp]
        exact List.prefix_append _ _
      have HIB := Lib.hid hib
      have HP2 := Lib.hid hp
      have HST := Lib.hid hst
      have HC := Lib.hid hc
      clear hib hp hst hc
      have w1 : IntKind.i64.wrap (ib + 1) = ib + 1 := by rw [IntKind.wrap_i64]; omega
      by_cases hz : ib + 1 = 0
      · have g1 : (ib + 1 == 0) = true := by simpa using hz
        rw [if_pos hz] at hcut
        subst hcut
        have hx : r.extract 0 r.size = r := ByteArray.extract_zero_size
        rw [hx] at hpx
        obtain ⟨fn, tmps, assign, body, hy, hR⟩ := hY pre _ wr HJ.out hpx
        clear hpx
        have HX := Lib.hid hx
        clear hx
        gi_wp2_with fail
        refine ⟨trivial, fun _ => by omega, ?_⟩
        refine (callsIn_wide.2 HIB.out).mono ?_
        rintro e w' ⟨rfl, rfl⟩
        gi_wp2
        refine ⟨fun _ => by omega, ?_⟩
        refine hR.mono ?_
        rintro e W3 ⟨rfl, hJ3, hk3⟩
        have hb3 : W3.heap[B]? = some (.cells #[.string r] 9 (0, 0)) := hk3.trans HBX.out
        have c3 : W3.cell? ⟨B, 0, none⟩ = some (.string r) := by simp [World.cell?, hb3]
        have f3 : W3.frozen? ⟨B, 0, none⟩ = false := by simp [World.frozen?, hb3]
        have HJ3 := Lib.hid hJ3
        have HB3 := Lib.hid hb3
        clear hJ3 hb3 hk3
        gi_wp2
        go_roundw
        case rel =>
          have hp := HP2.out
          rw [HX.out, show r.extract r.size r.size = ByteArray.empty from by apply ByteArray.ext; simp] at hp
          have hb : (W3.setCell ⟨B, 0, none⟩ (.string ByteArray.empty)).heap[B]? = some (.cells #[.string ByteArray.empty] 9 (0, 0)) := by
            simp [World.setCell, Array.getElem?_modify, HB3.out]
          exact ⟨pre ++ [r], ByteArray.empty, f', by simp, by simp, by rw [← hp]; simp, hJ _ _ _ ⟨_, rfl⟩ HJ3.out, hb⟩
        case measure =>
          have hb : (W3.setCell ⟨B, 0, none⟩ (.string ByteArray.empty)).cell? ⟨B, 0, none⟩ = some (.string ByteArray.empty) := World.cell?_setCell_same _ _ _ c3
          rw [boxSize_of hb, boxSize_of c0]
          simp; omega
      · have g1 : (ib + 1 == 0) = false := by simpa using hz
        rw [if_neg hz] at hcut
        have hic : ib = (c : Int) - 1 := by omega
        subst hic
        have w2 : IntKind.i64.wrap (c : Int) = (c : Int) := by rw [IntKind.wrap_i64]; omega
        have g2 : ((c : Int) == 0) = false := by simp; omega
        have b2' : (c : Int) ≤ (r.size : Int) := by omega
        obtain ⟨fn, tmps, assign, body, hy, hR⟩ := hY pre _ wr HJ.out hpx
        clear hpx hcut hz hge hlt g1
        gi_wp2_with fail
        refine ⟨trivial, fun _ => by omega, ?_⟩
        refine (callsIn_wide.2 HIB.out).mono ?_
        rintro e w' ⟨rfl, rfl⟩
        gi_wp2
        refine ⟨fun _ => by omega, ?_⟩
        refine hR.mono ?_
        rintro e W3 ⟨rfl, hJ3, hk3⟩
        have hb3 : W3.heap[B]? = some (.cells #[.string r] 9 (0, 0)) := hk3.trans HBX.out
        have c3 : W3.cell? ⟨B, 0, none⟩ = some (.string r) := by simp [World.cell?, hb3]
        have f3 : W3.frozen? ⟨B, 0, none⟩ = false := by simp [World.frozen?, hb3]
        have HJ3 := Lib.hid hJ3
        have HB3 := Lib.hid hb3
        clear hJ3 hb3 hk3
        gi_wp2
        go_roundw
        case rel =>
          have hb : (W3.setCell ⟨B, 0, none⟩ (.string (r.extract c r.size))).heap[B]? = some (.cells #[.string (r.extract c r.size)] 9 (0, 0)) := by
            simp [World.setCell, Array.getElem?_modify, HB3.out]
          exact ⟨pre ++ [r.extract 0 c], r.extract c r.size, f', hf', by rw [ByteArray.size_extract]; omega, by rw [← HP2.out]; simp, hJ _ _ _ ⟨_, rfl⟩ HJ3.out, hb⟩
        case measure =>
          have hb : (W3.setCell ⟨B, 0, none⟩ (.string (r.extract c r.size))).cell? ⟨B, 0, none⟩ = some (.string (r.extract c r.size)) := World.cell?_setCell_same _ _ _ c3
          rw [boxSize_of hb, boxSize_of c0, ByteArray.size_extract]
          omega
end Go.Proofs.YtbodemkmjemdjaaDoor
