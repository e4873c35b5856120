/-
  slices.Clone and slices.IndexFunc over files.
-/
import Derived.Test.YtbodemkmjemdjaaDoorValid
import Derived.Laws.OwnMore
import Derived.OwnWalk
namespace Go.Proofs.YtbodemkmjemdjaaDoor
open Go.RowKit

def filCells : List Fil → List Value
  | [] => []
  | f :: L => .string f.name :: .string f.text :: filCells L
theorem filCells_length (L : List Fil) : (filCells L).length = L.length * 2 := by
  induction L with
  | nil => rfl
  | cons f L ih => simp only [filCells, List.length_cons, ih]; omega
theorem filCells_at {L : List Fil} {k : Nat} {f : Fil} (h : L[k]? = some f) : (filCells L)[k * 2]? = some (.string f.name) ∧ (filCells L)[k * 2 + 1]? = some (.string f.text) := by
  induction L generalizing k with
  | nil => simp at h
  | cons g L ih =>
    cases k with
    | zero => simp at h; subst h; exact ⟨rfl, rfl⟩
    | succ k =>
      have := ih (k := k) (by simpa using h)
      rw [show (k + 1) * 2 = k * 2 + 2 by omega]
      exact this

def nameIs (q : ByteArray) (f : Fil) : Bool := f.name.toList == q.toList
def findF (L : List Fil) (q : ByteArray) : Option Nat := L.findIdx? (nameIs q)
def idxInt : Option Nat → Int
  | some i => i
  | none => -1

set_option maxHeartbeats 1000000 in
theorem closure_any (f : Fil) (q : ByteArray) (cb : Nat) (W : World) (h : W.cell? ⟨cb, 0, none⟩ = some (.string q)) (hlt : cb < W.heap.size) :
    Calls Tryd.prog 17 #[.agg #[.string f.name, .string f.text], .pointer (some ⟨cb, 0, none⟩)] W fun e w' => e = .returned (.bool (nameIs q f)) ∧ Below W.heap.size W w' := by
  have hB : ∀ cs, Below W.heap.size W (W.alloc (.cells cs 26)) := fun cs => (Below.refl _ W).alloc (Nat.le_refl _) _
  have HB := Lib.hid hB
  clear hB
  go_enter Tryd.func17, Tryd.ntmps17
  go_wp2
  go_ret
  exact ⟨rfl, HB.out _⟩

set_option maxHeartbeats 2000000 in
theorem index_any (v : Value) (L : List Fil) (q : ByteArray) (cb : Nat) (w : World) (hL : FilsAt w v L) (h : w.cell? ⟨cb, 0, none⟩ = some (.string q)) (hlt : cb < w.heap.size) :
    Calls Tryd.prog 16 #[v, .func (.func 17) #[] #[.pointer (some ⟨cb, 0, none⟩)]] w fun e w' => e = .returned (.int .i64 (idxInt (findF L q))) ∧ Below w.heap.size w w' := by
  obtain ⟨a, c, rfl, hc, hl, hs, hL⟩ := hL
  obtain ⟨n, hn⟩ : ∃ n, L.length = n := ⟨_, rfl⟩
  rw [hn] at hc hl ⊢
  have HL := Lib.hid hL; clear hL
  have HN := Lib.hid hn; clear hn
  have HQ := Lib.hid h; clear h
  have HLT := Lib.hid hlt; clear hlt
  have HS := Lib.hid hs; clear hs
  go_enter Tryd.func16, Tryd.ntmps16
  go_wp2
  go_loopw [8] (fun i wr => ∃ k : Nat, k ≤ n ∧ i = .int .i64 k ∧ Below w.heap.size w wr ∧ (L.take k).findIdx? (nameIs q) = none) (fun i _ => n - (intOf i).toNat)
  case atStart => exact ⟨0, Nat.zero_le _, rfl, Below.refl _ _, rfl⟩
  case round =>
    obtain ⟨k, hk, rfl, hb, hno⟩ := hrel
    by_cases hkn : k < n
    · obtain ⟨f, hf⟩ : ∃ f, L[k]? = some f := ⟨L[k]'(by have := HN.out; omega), List.getElem?_eq_getElem _⟩
      rcases HL.out with h | ⟨b, o, rfl, hlt, hcs⟩
      · rw [h] at hf; simp at hf
      obtain ⟨d1, d2⟩ := hcs k f hf
      have c1 := cell_later hb d1
      have c2 := cell_later hb d2
      have hcl := closure_any f q cb wr (cell_later hb HQ.out) (Nat.lt_of_lt_of_le HLT.out hb.size)
      have htk : L.take (k + 1) = L.take k ++ [f] := by rw [List.take_add_one, hf]; rfl
      have hdr : L = L.take k ++ (f :: L.drop (k + 1)) := by
        conv => lhs; rw [← List.take_append_drop k L]
        rw [List.drop_eq_getElem_cons (by have := HN.out; omega)]
        congr 2
        exact (List.getElem?_eq_some_iff.1 hf).2
      have hkl : (L.take k).length = k := by have := HN.out; rw [List.length_take]; omega
      cases hnm : nameIs q f with
      | true =>
        have hfi : findF L q = some k := by
          unfold findF
          rw [hdr, List.findIdx?_append, hno, List.findIdx?_cons, hnm, hkl]
          simp
        rw [hnm] at hcl
        have HCL := Lib.hid hcl
        have HF := Lib.hid hfi
        have HB := Lib.hid hb
        clear hcl hfi hdr htk hkl hnm hno d1 d2 hcs hf hb
        go_wp2_with (first | (go_at_call 17; refine HCL.out.mono ?_; rintro e5 w5 ⟨rfl, hb5⟩) | go_in)
        go_ret
        exact ⟨by rw [HF.out]; rfl, HB.out.trans (hb5.mono HB.out.size)⟩
      | false =>
        have hno2 : (L.take (k + 1)).findIdx? (nameIs q) = none := by
          rw [htk, List.findIdx?_append, hno, List.findIdx?_cons, hnm]
          simp
        rw [hnm] at hcl
        have HCL := Lib.hid hcl
        have HF := Lib.hid hno2
        have HB := Lib.hid hb
        clear hcl hno2 hdr htk hkl hnm hno d1 d2 hcs hf hb
        go_wp2_with (first | (go_at_call 17; refine HCL.out.mono ?_; rintro e5 w5 ⟨rfl, hb5⟩) | go_in)
        go_roundw
        case rel => exact ⟨k + 1, by omega, by go_num, HB.out.trans (hb5.mono HB.out.size), HF.out⟩
        case measure => simp [intOf]; omega
    · obtain rfl : k = n := by omega
      have ht : L.take k = L := List.take_of_length_le (by have := HN.out; omega)
      rw [ht] at hno
      have HF := Lib.hid (show findF L q = none from hno)
      have HB := Lib.hid hb
      clear hno ht hb
      go_wp2
      go_ret
      exact ⟨by rw [HF.out]; rfl, HB.out⟩

theorem run_eq_some (ad : Addr) (n c : Nat) (w : World) : Sem.run Tryd.prog (binOp BinOp.eql 22 (Value.slice (some ad) n c) (Value.slice none 0 0)) w = .ok (.bool false) w := by kernel_rfl
theorem run_eq_none (c : Nat) (w : World) : Sem.run Tryd.prog (binOp BinOp.eql 22 (Value.slice none 0 c) (Value.slice none 0 0)) w = .ok (.bool true) w := by kernel_rfl
theorem info26 : (Tryd.prog.info? 26).map (fun i => (i.zero, i.size, i.bytes)) = some (some (.agg #[.string ⟨#[]⟩, .string ⟨#[]⟩]), 2, 32) := by kernel_rfl

set_option maxHeartbeats 2000000 in
theorem hone (L : List Fil) : ∀ u ∈ filCells L, u.oneCell' = true := by
  induction L with
  | nil => intro u hu; cases hu
  | cons f L ih =>
    intro u hu
    simp only [filCells, List.mem_cons] at hu
    rcases hu with rfl | rfl | hu
    · rfl
    · rfl
    · exact ih u hu

set_option maxRecDepth 100000 in
theorem clone_any (v : Value) (L : List Fil) (w : World) (hL : FilsAt w v L) :
    Calls Tryd.prog 15 #[v] w fun e w' => ∃ u, e = .returned u ∧ w'.ownsRow w.heap.size 26 2 u L.length (filCells L) ∧ Below w.heap.size w w' := by
  obtain ⟨i0, hi, hz0, hz1, hz2⟩ := info_parts info26
  obtain ⟨a, c, rfl, hc, hl, hs, hL⟩ := hL
  cases a with
  | none =>
    have hL0 : L = [] := by
      rcases hL with h | ⟨b, o, h, _⟩
      · exact h
      · cases h
    subst hL0
    clear hL hs
    have heq := run_eq_none c w
    go_enter Tryd.func15, Tryd.ntmps15
    go_wp2
    go_ret
    exact ⟨_, rfl, World.ownsRow_nil _ _ _ _, Below.refl _ _⟩
  | some ad =>
    obtain ⟨n, hn⟩ : ∃ n, L.length = n := ⟨_, rfl⟩
    have hcell : ∀ j u, (filCells L)[j]? = some u → w.cell? (ad.add j) = some u := by
      intro j u hj
      rcases hL with h | ⟨b, o, h, hlt, hcs⟩
      · rw [h] at hj; simp [filCells] at hj
      · simp only [Option.some.injEq] at h
        subst h
        have hjl : j < L.length * 2 := by
          have := (List.getElem?_eq_some_iff.1 hj).1
          rwa [filCells_length] at this
        obtain ⟨f, hf⟩ : ∃ f, L[j / 2]? = some f := ⟨L[j / 2]'(by omega), List.getElem?_eq_getElem _⟩
        obtain ⟨g1, g2⟩ := filCells_at hf
        obtain ⟨q1, q2⟩ := hcs _ f hf
        have e2 : (⟨b, o, none⟩ : Addr).add j = ⟨b, o + j, none⟩ := by unfold Addr.add; split <;> simp_all
        rw [e2]
        rcases Nat.mod_two_eq_zero_or_one j with h0 | h0
        · have : j / 2 * 2 = j := by omega
          rw [this] at g1 q1
          rw [hj] at g1
          rw [q1, ← g1]
        · have : j / 2 * 2 + 1 = j := by omega
          rw [this] at g2
          rw [show o + j = o + j / 2 * 2 + 1 by omega]
          rw [hj] at g2
          rw [q2, ← g2]
    rw [hn] at hc hl ⊢
    have heq := run_eq_some ad n c w
    go_enter Tryd.func15, Tryd.ntmps15
    have hnew : (w.alloc (.cells #[] 26)).ownsRow w.heap.size 26 2 (.slice (some ⟨w.heap.size, 0, none⟩) 0 0) 0 [] :=
      ⟨rfl, .inr ⟨w.heap.size, 0, #[], rfl, Nat.le_refl _, World.alloc_heap_new w _, Nat.le_refl _, by unfold maxLen; omega, rfl, rfl⟩⟩
    go_wp2_with (at_builtin; refine wpList_append_own _ rfl _ _ 22 rfl w.heap.size 26 i0 (.agg #[.string ⟨#[]⟩, .string ⟨#[]⟩]) 2 32 Tryd.underlying22 hi hz0 hz1 hz2 rfl (by decide) _ _ _ rfl hnew ad n c (filCells L) rfl (by rw [filCells_length, hn]) (fun j u hj => cell_later ((Below.refl _ w).alloc (Nat.le_refl _) _) (hcell j u hj)) (hone L) (by unfold maxLen; omega) (by omega) (by simp) ?_; intro u w1 hown' hgrow _)
    go_ret
    refine ⟨_, rfl, by simpa using hown', ?_⟩
    refine ((Below.refl _ w).alloc (Nat.le_refl _) _).grown hgrow (by simp) fun k hk => ?_
    have : w.heap.size = k := by simpa [Act.eval, Value.ownBlock] using hk
    omega

end Go.Proofs.YtbodemkmjemdjaaDoor
