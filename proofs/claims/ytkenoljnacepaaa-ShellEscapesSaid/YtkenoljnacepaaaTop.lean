/-
  Escape, by a Replacer that is made and used once: the text, escaped.
-/
import Derived.Test.YtkenoljnacepaaaRepl
import Derived.Test.YtkenoljnacepaaaBuild
import Derived.Deep.AppendLies
namespace Go.Proofs.Ytkenoljnacepaaa
open Go.RowKit

theorem info9 : (Try.prog.info? 9).map (fun i => (i.zero, i.size, i.bytes)) = some (some (.string ⟨#[]⟩), 1, 16) := by kernel_rfl

/-- A Replacer that is made and not yet used. -/
def Fresh (w : World) (R : Nat) : Prop :=
  ∃ g c, w.heap[R]? = some (.cells #[.int .u32 0, .int .i32 0, .int .u32 0, .nilIface, .slice (some ⟨g, 0, none⟩) 4 c] 42 (0, 0)) ∧ g ≠ R ∧
    w.cell? ⟨g, 0, none⟩ = some (.string ⟨#[92]⟩) ∧ w.cell? ⟨g, 1, none⟩ = some (.string ⟨#[92, 92]⟩) ∧ w.cell? ⟨g, 2, none⟩ = some (.string ⟨#[10]⟩) ∧ w.cell? ⟨g, 3, none⟩ = some (.string ⟨#[92, 110]⟩)

def four : List Value := [.string ⟨#[92]⟩, .string ⟨#[92, 92]⟩, .string ⟨#[10]⟩, .string ⟨#[92, 110]⟩]

set_option maxRecDepth 100000 in
set_option maxHeartbeats 1600000 in
theorem new_any (A : Nat) (w : World) (hA : w.heap[A]? = some (.cells four.toArray 9 (0, 0))) :
    Calls Try.prog 6 #[.slice (some ⟨A, 0, none⟩) 4 4] w fun e w' => ∃ R, e = .returned (.pointer (some ⟨R, 0, none⟩)) ∧ Fresh w' R ∧ w.heap.size ≤ R ∧ Below w.heap.size w w' := by
  have hnews : ∀ (j : Nat) (u : Value), four[j]? = some u → w.cell? ((⟨A, 0, none⟩ : Addr).add j) = some u := World.news_of_block (cs := four.toArray) hA
  obtain ⟨i0, hi, hz0, hz1, hz2⟩ := info_parts info9
  have HI := Lib.hid hi; clear hi
  have HZ := Lib.hid (And.intro hz0 (And.intro hz1 hz2)); clear hz0 hz1 hz2
  have HN := Lib.hid hnews; clear hnews
  go_enter Try.func6, Try.ntmps6
  go_wp2_with (first
    | (at_builtin
       refine wpList_append_lies _ rfl (.const (.slice none 0 0)) (.tmp 8) 26 rfl 0 9 i0 _ 1 16 Try.underlying26 HI.out HZ.out.1 HZ.out.2.1 HZ.out.2.2 rfl (by decide) (.slice none 0 0) 0 [] rfl (World.ownsRow_nil _ 0 9 1) ⟨A, 0, none⟩ 4 4 four rfl rfl HN.out (by decide) (by decide) (by decide) (by decide) (Nat.zero_le _) w.heap.size rfl ?_
       intro g cap w1 hown hgrow hat hlt
       have HO := Lib.hid hown
       have HG := Lib.hid hgrow
       have HT := Lib.hid hat
       have HL := Lib.hid hlt
       clear hown hgrow hat hlt
       try simp only [Nat.zero_add])
    | go_in)
  go_ret
  have hg : g = w.heap.size := by
    have := HT.out
    simpa [Value.ownBlock] using this
  have hb1 : Below w.heap.size w w1 := (Below.refl _ w).grown HG.out (Nat.le_refl _) (by intro k hk; cases hk)
  have hlt := HL.out
  have cc : ∀ (j : Nat) (u : Value), four[j]? = some u → (w1.alloc (.cells #[.int .u32 0, .int .i32 0, .int .u32 0, .nilIface, .slice (some ⟨g, 0, none⟩) 4 cap] 42)).cell? ⟨g, j, none⟩ = some u := fun j u hu => by
    have h1 := HO.out.cells (g := g) rfl j u (by rw [List.nil_append]; exact hu)
    have h2 : (⟨g, 0, none⟩ : Addr).add j = ⟨g, j, none⟩ := by unfold Addr.add; split <;> simp_all
    rw [h2] at h1
    exact cell_later ((Below.refl _ w1).alloc (Nat.le_refl _) _) h1
  exact ⟨w1.heap.size, rfl, ⟨g, cap, heap_alloc_new w1 _, by omega, cc 0 _ rfl, cc 1 _ rfl, cc 2 _ rfl, cc 3 _ rfl⟩, hb1.size, hb1.alloc hb1.size _⟩

/-- What buildOnce leaves, beside the Once's words. -/
def Built (b0 R : Nat) (w w' : World) : Prop :=
  ∃ S B, Done w.heap.size w' S B ∧ w'.cell? ⟨R, 3, none⟩ = some (.iface 62 (.pointer (some ⟨B, 0, none⟩))) ∧ Below b0 w w' ∧ R < w.heap.size

set_option maxRecDepth 100000 in
set_option maxHeartbeats 1600000 in
theorem buildOnce_any (b0 R : Nat) (w : World) (hF : Fresh w R) (hb0 : b0 ≤ R) :
    Calls Try.prog 9 #[.pointer (some ⟨R, 0, none⟩)] (w.setCell ⟨R, 1, none⟩ (.int .i32 1)) fun e w' => e = .returned (.tuple #[]) ∧ OnceHeld R w' ∧ Built b0 R w w' := by
  obtain ⟨g, c, hR, hgR, c0, c1, c2, c3⟩ := hF
  have hRl : R < w.heap.size := (Array.getElem?_eq_some_iff.1 hR).1
  have hR1 : (w.setCell ⟨R, 1, none⟩ (.int .i32 1)).heap[R]? = some (.cells #[.int .u32 0, .int .i32 1, .int .u32 0, .nilIface, .slice (some ⟨g, 0, none⟩) 4 c] 42 (0, 0)) := by
    simp [World.setCell, Array.getElem?_modify, hR]
  have hsz : (w.setCell ⟨R, 1, none⟩ (.int .i32 1)).heap.size = w.heap.size := by simp [World.setCell]
  have hbl : Below b0 w (w.setCell ⟨R, 1, none⟩ (.int .i32 1)) := (Below.refl _ w).setCell hb0 _
  have q : ∀ (j : Nat) (u : Value), w.cell? ⟨g, j, none⟩ = some u → (w.setCell ⟨R, 1, none⟩ (.int .i32 1)).cell? ⟨g, j, none⟩ = some u := fun j u hu => by
    rw [World.cell?_setCell_other _ _ _ _ (fun e => hgR (by simpa using (congrArg Addr.block e).symm))]
    exact hu
  have k0 := q _ _ c0
  have k1 := q _ _ c1
  have k2 := q _ _ c2
  have k3 := q _ _ c3
  clear c0 c1 c2 c3 q
  generalize w.setCell ⟨R, 1, none⟩ (.int .i32 1) = W1 at hR1 hsz hbl k0 k1 k2 k3 ⊢
  have k4 : W1.cell? ⟨R, 4, none⟩ = some (.slice (some ⟨g, 0, none⟩) 4 c) := by simp [World.cell?, hR1]
  go_enter Try.func9, Try.ntmps9
  go_wp2_with fail
  refine (build_any R g c W1 k4 k0 k1 k2 k3).mono ?_
  rintro e w2 ⟨S, B, rfl, hT⟩
  have hD := hT.done
  have hR2 : w2.heap[R]? = some (.cells #[.int .u32 0, .int .i32 1, .int .u32 0, .nilIface, .slice (some ⟨g, 0, none⟩) 4 c] 42 (0, 0)) := (hT.below.block R (by omega)).trans hR1
  have m3 : w2.cell? ⟨R, 3, none⟩ = some .nilIface := by simp [World.cell?, hR2]
  have m4 : w2.cell? ⟨R, 4, none⟩ = some (.slice (some ⟨g, 0, none⟩) 4 c) := by simp [World.cell?, hR2]
  have f3 : w2.frozen? ⟨R, 3, none⟩ = false := by simp [World.frozen?, hR2]
  have f4 : w2.frozen? ⟨R, 4, none⟩ = false := by simp [World.frozen?, hR2]
  have hbl2 : Below b0 w w2 := hbl.trans (hT.below.mono (by omega))
  have HD := Lib.hid hD
  have HR2 := Lib.hid hR2
  have HB2 := Lib.hid hbl2
  clear hT hD hR2 hbl2 hbl k0 k1 k2 k3 k4 hR1 hR
  go_wp2
  go_end0
  refine ⟨rfl, ⟨?_, ?_, ?_, ?_⟩, S, B, ?_, ?_, ?_, hRl⟩
  · simp [World.cell?, World.setCell, Array.getElem?_modify, HR2.out]
  · simp [World.frozen?, World.setCell, Array.getElem?_modify, HR2.out]
  · simp [World.cell?, World.setCell, Array.getElem?_modify, HR2.out]
  · simp [World.frozen?, World.setCell, Array.getElem?_modify, HR2.out]
  · have h := HD.out
    rw [hsz] at h
    refine h.frame (by simp [World.setCell]) (fun k hk _ => ?_)
    rw [Below.heap_setCell _ _ _ _ (by show k ≠ R; omega), Below.heap_setCell _ _ _ _ (by show k ≠ R; omega)]
  · simp [World.cell?, World.setCell, Array.getElem?_modify, HR2.out]
  · exact (HB2.out.setCell (p := ⟨R, 3, none⟩) hb0 _).setCell (p := ⟨R, 4, none⟩) hb0 _

theorem method74 (w : World) (B : Nat) : (method 239 62 (.pointer (some ⟨B, 0, none⟩)) "Replace").run Try.prog w = .ok (74, .pointer (some ⟨B, 0, none⟩)) w := by kernel_rfl

set_option maxRecDepth 100000 in
set_option maxHeartbeats 1600000 in
theorem replace_any (b0 R : Nat) (w : World) (hF : Fresh w R) (hb0 : b0 ≤ R) (s : ByteArray) (hs : s.size ≤ 2000) :
    Calls Try.prog 7 #[.pointer (some ⟨R, 0, none⟩), .string s] w fun e w' => e = .returned (.string (bytesOf (escL s.data.toList))) ∧ Below b0 w w' := by
  have hB := buildOnce_any b0 R w hF hb0
  obtain ⟨g, c, hR, hgR, c0, c1, c2, c3⟩ := hF
  have a0 : w.cell? ⟨R, 0, none⟩ = some (.int .u32 0) := by simp [World.cell?, hR]
  have a1 : w.cell? ⟨R, 1, none⟩ = some (.int .i32 0) := by simp [World.cell?, hR]
  have f1 : w.frozen? ⟨R, 1, none⟩ = false := by simp [World.frozen?, hR]
  have hmf : ∀ (fn : Fn) (first cap : Array Value) (w : World), (Instr.makeFunc fn first cap).run Try.prog w = .ok (.func fn first cap) w := fun _ _ _ _ => rfl
  clear c0 c1 c2 c3 hR
  have hmt := method74
  go_enter Try.func7, Try.ntmps7
  go_wp2_with (first
    | (go_at_call 8; refine (do_first R w a0 a1 f1 (Built b0 R w) hB).mono ?_; rintro e w' ⟨rfl, w2, hH, ⟨S, B, hD, m3, hbl, hRl⟩, hw⟩
       have hD2 : Done w.heap.size ((w2.setCell ⟨R, 0, none⟩ (.int .u32 1)).setCell ⟨R, 1, none⟩ (.int .i32 0)).drew S B := hD.frame (by simp [World.setCell, World.drew]) (fun k hk _ => by
         rw [show ∀ W : World, W.drew.heap = W.heap from fun _ => rfl, Below.heap_setCell _ _ _ _ (by show k ≠ R; omega), Below.heap_setCell _ _ _ _ (by show k ≠ R; omega)])
       have hbl2 : Below b0 w ((w2.setCell ⟨R, 0, none⟩ (.int .u32 1)).setCell ⟨R, 1, none⟩ (.int .i32 0)).drew := ((hbl.setCell (p := ⟨R, 0, none⟩) hb0 _).setCell (p := ⟨R, 1, none⟩) hb0 _).drew
       have HD2 := Lib.hid hD2
       have HBL2 := Lib.hid hbl2
       clear hD hbl hD2 hbl2 hB)
    | (go_at_call 74; refine (repl_any HD2.out s hs).mono ?_; rintro e w' ⟨rfl, hb⟩))
  go_ret
  exact ⟨rfl, HBL2.out.trans (hb.mono (by have := HBL2.out.size; omega))⟩

set_option maxRecDepth 100000 in
set_option maxHeartbeats 1600000 in
theorem escape_any (s : ByteArray) (w : World) (hs : s.size ≤ 2000) :
    Calls Try.prog 4 #[.string s] w fun e w' => e = .returned (.string (bytesOf (escL s.data.toList))) ∧ Below w.heap.size w w' := by
  have hA : (w.alloc (.cells four.toArray 9)).heap[w.heap.size]? = some (.cells four.toArray 9 (0, 0)) := heap_alloc_new w _
  have hn := new_any w.heap.size _ hA
  have hb0 : Below w.heap.size w (w.alloc (.cells four.toArray 9)) := (Below.refl _ w).alloc (Nat.le_refl _) _
  have HN := Lib.hid hn
  have HB := Lib.hid hb0
  clear hn hb0 hA
  go_enter Try.func4, Try.ntmps4
  go_wp2_with fail
  refine HN.out.mono ?_
  rintro e w1 ⟨R, rfl, hF, hR, hb1⟩
  have hsz : w.heap.size ≤ R := by
    have : (w.alloc (.cells four.toArray 9)).heap.size = w.heap.size + 1 := by simp
    omega
  have hb2 := HB.out.trans (hb1.mono HB.out.size)
  have HF := Lib.hid hF
  clear hF hb1
  go_wp2_with fail
  refine (replace_any w.heap.size R w1 HF.out hsz s hs).mono ?_
  rintro e w2 ⟨rfl, hb3⟩
  go_wp2
  go_ret
  exact ⟨rfl, hb2.trans hb3⟩

set_option maxHeartbeats 1600000 in
theorem law_any (s : ByteArray) (w : World) :
    Calls Try.prog 3 #[.string s] w fun e w' => e = .returned (.bool true) ∧ Below w.heap.size w w' := by
  by_cases hs : (2000 : Int) < (s.size : Int)
  · go_enter Try.func3, Try.ntmps3
    go_wp2_with fail
    go_ret
    exact ⟨rfl, Below.refl _ w⟩
  · have hs' : s.size ≤ 2000 := by omega
    go_enter Try.func3, Try.ntmps3
    go_wp2_with fail
    refine (escape_any s w hs').mono ?_
    rintro e w1 ⟨rfl, hb1⟩
    go_wp2_with fail
    refine (ref_any s w1 hs').mono ?_
    rintro e w2 ⟨rfl, rfl⟩
    go_wp2_with fail
    go_ret
    exact ⟨rfl, hb1⟩
end Go.Proofs.Ytkenoljnacepaaa
