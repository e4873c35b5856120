/-
  What the rows of ToldBack and ToldJoins give of the package variables; a world for their witness.
-/
import Derived.Test.YtbodemkmjemdjaaDoorCards
import Derived.Test.YtbodemkmjemdjaaDoorTie
import Derived.Test.YtbodemkmjemdjaaDoorOpen
import Derived.Test.YtbodemkmjemdjaaDoorNumber
import Derived.ProofKit
import Derived.OpenShut
import Derived.ShutString
import Derived.ChangeOld
import Derived.Deep.DeepHandedRow
import Derived.Lib.LaidTab
import Derived.LaidMore
namespace Go.Proofs.YtbodemkmjemdjaaDoor
open Go.ChangeShapes Go.WideShapes Go.ChangeAt Go.RowKit Go.Joins

theorem Tryd.own : ownKnob Tryd.prog.godebug = none := by kernel_rfl
theorem Tryd.laidOut : laidOutB Tryd.prog = true := by kernel_rfl
theorem gPow : Tryd.prog.globalNamed "internal/strconv.uint64pow10" = some 0 := by kernel_rfl
theorem gPowType : (Tryd.prog.globals[0]?).map (·.type) = some 125 := by kernel_rfl
theorem cells125 : Tryd.prog.cellsOf 125 = 20 := by kernel_rfl
theorem cells109 : Tryd.prog.cellsOf 109 = 1 := by kernel_rfl

theorem pow_of_laid {W : World} {laid : List (String × DataW Unit)} (h : laidMetH Tryd.prog laid W) (hl : (laid.filter fun x => x.1 == "internal/strconv.uint64pow10") = [("internal/strconv.uint64pow10", Lib.tabData .u64 Lib.pow10Tab)]) : Pow10 W := by
  have h2 := h.filter fun x => x.1 == "internal/strconv.uint64pow10"
  rw [hl] at h2
  exact Lib.tabIs_of_head (rest := []) gPow gPowType Tryd.underlying125 Tryd.underlying109 cells109 cells125 h2

theorem maxLen_of_shaped {W : World} (h : W.ShapedOpen Tryd.prog) : ∃ m, W.cell? ⟨1, 0, none⟩ = some (.int .i64 m) := Tryd.laysM219.s1_3 W h

theorem err_of_laid {W : World} {laid : List (String × DataW Unit)} {name nm : String} {g : Nat} {d : DataW Unit} (hg0 : Tryd.prog.globalNamed name = some g) (ht0 : (Tryd.prog.globals[g]?).map (·.type) = some 57) (h : laidMetH Tryd.prog laid W)
    (hl : (laid.filter fun x => x.1 == name) = [(name, .iface nm d)]) (hn : (DataW.iface nm d : DataW Unit).handleName? = none) : ∃ te pe, W.cell? ⟨g, 0, none⟩ = some (.iface te pe) := by
  have h2 := h.filter fun x => x.1 == name
  rw [hl] at h2
  have hp0 := (laidMetH_iff.1 h2).1
  have hp : laidMet Tryd.prog [(name, .iface nm d)] W := by
    rw [List.filter_cons_of_pos (by simp [hn])] at hp0
    exact hp0
  obtain ⟨ps, ⟨g1, t1, cs1, f1, p1, q1, hg1, ht1, hv1, hd1, _, _⟩, _, _⟩ := hp
  obtain rfl := Option.some.inj (hg0.symm.trans hg1)
  obtain rfl := Option.some.inj (ht0.symm.trans ht1)
  obtain ⟨f2, u, v, e1, _, _⟩ := iface_of_trod Tryd.underlying57 hd1
  have := World.var?_cell hg1 hv1 0
  rw [Array.eq_one_of_toList e1] at this
  exact ⟨u, v, by simpa using this⟩

theorem errs_of_laid {W : World} {laid : List (String × DataW Unit)} {n1 n2 : String} {d1 d2 : DataW Unit} (h : laidMetH Tryd.prog laid W) (h1 : (laid.filter fun x => x.1 == "strconv.ErrSyntax") = [("strconv.ErrSyntax", .iface n1 d1)])
    (h2 : (laid.filter fun x => x.1 == "strconv.ErrRange") = [("strconv.ErrRange", .iface n2 d2)]) (g1 : (DataW.iface n1 d1 : DataW Unit).handleName? = none) (g2 : (DataW.iface n2 d2 : DataW Unit).handleName? = none) : Errs W := by
  obtain ⟨a, b, hc⟩ := err_of_laid (g := 6) (by kernel_rfl) (by kernel_rfl) h h1 g1
  obtain ⟨a', b', hc'⟩ := err_of_laid (g := 7) (by kernel_rfl) (by kernel_rfl) h h2 g2
  exact ⟨_, _, hc, hc', .inr ⟨_, _, rfl⟩, .inr ⟨_, _, rfl⟩⟩

def flatD : DataW Unit → List Value
  | .lit (.int k z) => [.int k z]
  | .agg [.lit (.int k z), .lit (.int k2 z2)] => [.int k z, .int k2 z2]
  | _ => []
def flatA : DataW Unit → List Value
  | .agg l => l.flatMap flatD
  | _ => []
def layAt (d : DataW Unit) : Obj → Obj
  | .cells _ t frozen => .cells (flatA d).toArray t frozen
  | o => o
def errText : DataW Unit → List UInt8
  | .iface _ (.ptr (.agg [.lit (.string s)])) => s
  | _ => []
def layErr (b : Nat) : Obj → Obj
  | .cells _ t frozen => .cells #[.iface 154 (.pointer (some ⟨b, 0, none⟩))] t frozen
  | o => o
/-- A world for the witness: the settled one, the tables and the two errors holding what their initialisers lay. -/
noncomputable def sealWorld (os : Os) : World :=
  let w0 := World.holding Tryd.prog os ⟨#[], #[], []⟩
  { w0 with heap := ((((((((w0.heap.modify 0 (layAt Rows.laid_internal_strconv_uint64pow10)).modify 2 (layAt Rows.laid_math_bits_deBruijn32tab)).modify 3 (layAt Rows.laid_math_bits_deBruijn64tab)).modify 4 (layAt Rows.laid_unicode_utf8_first)).modify 5 (layAt Rows.laid_unicode_utf8_acceptRanges)).modify 6 (layErr w0.heap.size)).modify 7 (layErr (w0.heap.size + 1))).push (.cells #[.string ⟨(errText Rows.laid_strconv_ErrSyntax).toArray⟩] 156)).push (.cells #[.string ⟨(errText Rows.laid_strconv_ErrRange).toArray⟩] 156) }

theorem bound_of {H : Type} {l : List (DataW H)} (h : Rows.uptoSmall H l = true) : Rows.uptoBulkAll l ≤ 1048576 := of_decide_eq_true h

set_option maxRecDepth 100000
theorem seal_laid_back (os : Os) : laidMet Tryd.prog Rows.toldBackUptoRow.laid ((sealWorld os).forCall (fun _ _ => 0) ⟨#[], #[.slice none 0 0, .string ⟨#[]⟩], []⟩).memory :=
  laidMet_of_run' 8 (by kernel_rfl) (by kernel_rfl)

end Go.Proofs.YtbodemkmjemdjaaDoor
