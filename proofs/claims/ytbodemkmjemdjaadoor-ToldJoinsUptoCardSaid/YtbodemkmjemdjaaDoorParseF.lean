/-
  What Parse computes, in plain words.
-/
import Derived.Test.YtbodemkmjemdjaaDoorHead
import Derived.Test.YtbodemkmjemdjaaDoorNow
namespace Go.Proofs.YtbodemkmjemdjaaDoor
open Go.RowKit

def plusLine (s : ByteArray × Bool) : Bool := s.2 && Lib.hasPrefix s.1.data.toList [43]
/-- The lines that are put in: many of them from the n-th on, behind a text. -/
def takeF (X : List ByteArray) : Nat → Nat → ByteArray → ByteArray × Nat × Bool
  | 0, n, t => (t, n, true)
  | m + 1, n, t => if plusLine (nowF X n) = true then takeF X m (n + 1) (t ++ ((nowF X n).1.extract 1 (nowF X n).1.size ++ ⟨#[10]⟩)) else (t, n, false)

inductive EdStep where
  | halts (n : Nat) (bad : Bool)
  | gives (e : Ed) (n : Nat)

def editLine (s : ByteArray × Bool) : Bool := s.2 && Lib.hasPrefix s.1.data.toList [64, 32]
/-- The edit that comes, behind one that ended at a line. -/
def editF (X : List ByteArray) (n : Nat) (last : Int) : EdStep :=
  if editLine (nowF X n) = true then
    match headF ((nowF X n).1.extract 2 (nowF X n).1.size) with
    | none => .halts n true
    | some (e, many) =>
      if nextF ⟨e.fr, e.tt, if many = 0 then ⟨#[]⟩ else ⟨#[43]⟩⟩ last = true then
        if (takeF X many (n + 1) ⟨#[]⟩).2.2 = true then
          if ((nowF X (takeF X many (n + 1) ⟨#[]⟩).2.1).2 && (nowF X (takeF X many (n + 1) ⟨#[]⟩).2.1).1.toList == [45]) = true then
            if (decide (many = 0) || (X[(takeF X many (n + 1) ⟨#[]⟩).2.1 - 1]?.getD ⟨#[]⟩).toList == [43, 10]) = true then .halts (takeF X many (n + 1) ⟨#[]⟩).2.1 true
            else .gives ⟨e.fr, e.tt, ⟨(Lib.trimSuffix (takeF X many (n + 1) ⟨#[]⟩).1.data.toList [10]).toArray⟩⟩ ((takeF X many (n + 1) ⟨#[]⟩).2.1 + 1)
          else .gives ⟨e.fr, e.tt, (takeF X many (n + 1) ⟨#[]⟩).1⟩ (takeF X many (n + 1) ⟨#[]⟩).2.1
        else .halts (takeF X many (n + 1) ⟨#[]⟩).2.1 true
      else .halts n true
  else .halts n false

/-- The edits that come, the line behind them, and whether one is wrong. -/
def editsF (X : List ByteArray) : Nat → Nat → Int → List Ed × Nat × Bool
  | 0, n, _ => ([], n, false)
  | f + 1, n, last => match editF X n last with
    | .halts n' b => ([], n', b)
    | .gives e n' => (e :: (editsF X f n' e.tt).1, (editsF X f n' e.tt).2.1, (editsF X f n' e.tt).2.2)

def nameOf (s : ByteArray) : ByteArray := ⟨(Lib.trimPrefix s.data.toList [61, 32]).toArray⟩
/-- May the line that comes name the next file? -/
def nameLine (s : ByteArray × Bool) (out : List Chg) : Bool :=
  s.2 && Lib.hasPrefix s.1.data.toList [61, 32] && pathOk (nameOf s.1) && (match out.getLast? with | none => true | some c => !leB (nameOf s.1) c.name)
def parseGo (X : List ByteArray) : Nat → Nat → List Chg → List Chg × Nat × Int
  | 0, _, out => (out, 0, 0)
  | f + 1, n, out =>
    if X.length ≤ n then (out, 0, 0)
    else if nameLine (nowF X n) out = true then
      if ((editsF X (X.length + 1) (n + 1) (-1)).2.2 || decide ((editsF X (X.length + 1) (n + 1) (-1)).1.length = 0)) = true then ([], (editsF X (X.length + 1) (n + 1) (-1)).2.1 + 1, 240)
      else parseGo X f (editsF X (X.length + 1) (n + 1) (-1)).2.1 (out ++ [⟨nameOf (nowF X n).1, (editsF X (X.length + 1) (n + 1) (-1)).1⟩])
    else ([], n + 1, 240)
def parseF (s : ByteArray) : List Chg × Nat × Int := parseGo (linesOf s) ((linesOf s).length + 1) 0 []

end Go.Proofs.YtbodemkmjemdjaaDoor
