/-
  What Text answers: the text of changes.
-/
import Derived.Test.YtbodemkmjemdjaaDoorValid
import Derived.Test.YtbodemkmjemdjaaDoorGreat
import Derived.Lib.ItoaLen
namespace Go.Proofs.YtbodemkmjemdjaaDoor
open Go.RowKit

def linesText (X : List ByteArray) : List UInt8 := X.flatMap fun x => 43 :: x.data.toList
def endText (e : Ed) : List UInt8 := if (linesOf e.tx).length ≠ 0 ∧ Lib.hasSuffix e.tx.data.toList [10] = false then [10, 45, 10] else []
def headText (e : Ed) : List UInt8 := [64, 32] ++ Lib.itoa (e.fr + 1) ++ [32] ++ Lib.itoa (e.tt - e.fr) ++ [32] ++ Lib.itoa (linesOf e.tx).length ++ [10]
def edText (e : Ed) : List UInt8 := headText e ++ (linesText (linesOf e.tx) ++ endText e)
def edsText (E : List Ed) : List UInt8 := E.flatMap edText
def chgText (c : Chg) : List UInt8 := ([61, 32] ++ c.name.data.toList ++ [10]) ++ edsText c.eds
def textL (C : List Chg) : List UInt8 := C.flatMap chgText
def textF (C : List Chg) : ByteArray × Int := if validF C = true then (⟨(textL C).toArray⟩, 0) else (ByteArray.empty, 2)

theorem textL_drop {C : List Chg} {k : Nat} {c : Chg} (h : C[k]? = some c) : textL (C.drop k) = ([61, 32] ++ c.name.data.toList ++ [10]) ++ (edsText c.eds ++ textL (C.drop (k + 1))) := by
  obtain ⟨hk, hc⟩ := List.getElem?_eq_some_iff.1 h
  rw [List.drop_eq_getElem_cons hk, hc]
  simp [textL, chgText]
theorem edsText_drop {E : List Ed} {k : Nat} {e : Ed} (h : E[k]? = some e) : edsText (E.drop k) = headText e ++ (linesText (linesOf e.tx) ++ (endText e ++ edsText (E.drop (k + 1)))) := by
  obtain ⟨hk, hc⟩ := List.getElem?_eq_some_iff.1 h
  rw [List.drop_eq_getElem_cons hk, hc]
  simp [edsText, edText]
theorem linesText_drop {X : List ByteArray} {k : Nat} {x : ByteArray} (h : X[k]? = some x) : linesText (X.drop k) = (43 :: x.data.toList) ++ linesText (X.drop (k + 1)) := by
  obtain ⟨hk, hc⟩ := List.getElem?_eq_some_iff.1 h
  rw [List.drop_eq_getElem_cons hk, hc]
  simp [linesText]

theorem validGo_at : ∀ (C : List Chg) (p : Option ByteArray), validGo p C = true → ∀ x ∈ C, edsOk (-1) x.eds = true
  | [], _, _, x, hx => by cases hx
  | c :: C, p, h, x, hx => by
    simp only [validGo, Bool.and_eq_true] at h
    rcases List.mem_cons.1 hx with rfl | hx
    · exact h.2.1
    · exact validGo_at C _ h.2.2 x hx
theorem edsOk_at : ∀ (E : List Ed) (last : Int), edsOk last E = true → ∀ e ∈ E, 0 ≤ e.fr ∧ e.fr ≤ e.tt ∧ e.tt ≤ 65536 ∧ (linesOf e.tx).length ≤ 65536
  | [], _, _, e, he => by cases he
  | f :: E, last, h, e, he => by
    simp only [edsOk, Bool.and_eq_true, decide_eq_true_eq] at h
    rcases List.mem_cons.1 he with rfl | he
    · have h1 := h.1.1
      simp only [nextF, Bool.and_eq_true, decide_eq_true_eq] at h1
      exact ⟨h1.1.1.1.2, h1.1.1.2, h1.1.2, h.1.2⟩
    · exact edsOk_at E _ h.2 e he

/-- An edit's own box. -/
def EdBox (W : World) (N : Nat) (e : Ed) : Prop := W.heap[N]? = some (.cells #[.int .i64 e.fr, .int .i64 e.tt, .string e.tx] 46 (0, 0))
theorem EdBox.c0 {W : World} {N : Nat} {e : Ed} (h : EdBox W N e) : W.cell? ⟨N, 0, none⟩ = some (.int .i64 e.fr) := by rw [Lib.cell_of_heap h]; rfl
theorem EdBox.c1 {W : World} {N : Nat} {e : Ed} (h : EdBox W N e) : W.cell? ⟨N, 1, none⟩ = some (.int .i64 e.tt) := by rw [Lib.cell_of_heap h]; rfl
theorem EdBox.c2 {W : World} {N : Nat} {e : Ed} (h : EdBox W N e) : W.cell? ⟨N, 2, none⟩ = some (.string e.tx) := by rw [Lib.cell_of_heap h]; rfl
theorem EdBox.lt {W : World} {N : Nat} {e : Ed} (h : EdBox W N e) : N < W.heap.size := (Array.getElem?_eq_some_iff.1 h).1
theorem EdBox.below {W W' : World} {N : Nat} {e : Ed} (h : EdBox W N e) (hb : Below W.heap.size W W') : EdBox W' N e := (hb.block N h.lt).trans h
theorem EdBox.keep {W W' : World} {N b : Nat} {e : Ed} (h : EdBox W N e) (hk : Lib.OthersKept 5 (some b) W W') (hne : N ≠ b) : EdBox W' N e := hk N _ h (by simp [hne]) (by rintro c fz ⟨⟩)

/-- The builder takes a text. -/
theorem write_keep (b : Nat) (l : List UInt8) (s : ByteArray) (W : World) (h : Lib.IsBuilder 55 5 b b (Lib.byteCells l) W) (hl : l.length + s.size ≤ 140737488355328) :
    Calls Tryd.prog 19 #[.pointer (some ⟨b, 0, none⟩), .string s] W fun e w' => (∃ v, e = .returned v) ∧ Lib.IsBuilder 55 5 b b (Lib.byteCells (l ++ s.data.toList)) w' ∧ Below b W w' ∧ Lib.OthersKept 5 (some b) W w' := by
  have hlt : b < W.heap.size := by rcases h with h | h <;> exact h.lt
  refine (writeString_any b b _ s W h (by rw [Lib.byteCells_length]; exact hl) (Nat.le_of_lt hlt)).mono ?_
  rintro e w' ⟨rfl, h1, h2, h3⟩
  have e1 : Lib.byteCells (l ++ s.data.toList) = Lib.byteCells l ++ Lib.strCells s := by simp [Lib.byteCells, Lib.strCells]
  exact ⟨⟨_, rfl⟩, by rw [e1]; exact .inr h1, h2, h3⟩

def Pow10 (w : World) : Prop := Lib.TabIs Tryd.prog w "internal/strconv.uint64pow10" .u64 Lib.pow10Tab
theorem pow10_below {w w' : World} (h : Pow10 w) (hb : Below w.heap.size w w') : Pow10 w' := by
  unfold Pow10 Lib.TabIs World.var? at h ⊢
  cases hg : Tryd.prog.globalNamed "internal/strconv.uint64pow10" with
  | none => rw [hg] at h; cases h
  | some g =>
    rw [hg] at h
    simp only [Option.bind_some] at h ⊢
    have hlt : g < w.heap.size := by
      rcases Nat.lt_or_ge g w.heap.size with h' | h'
      · exact h'
      · rw [Array.getElem?_eq_none h'] at h; cases h
    rw [hb.block g hlt]
    exact h

/-- A number's digits. -/
theorem itoa_str (n : Int) (h0 : -9223372036854775808 ≤ n) (h1 : n ≤ 9223372036854775807) (w : World) (htab : Pow10 w) :
    Calls Tryd.prog 21 #[.int .i64 n] w fun e w' => e = .returned (.string ⟨(Lib.itoa n).toArray⟩) ∧ Below w.heap.size w w' :=
  (Tryd.strconv_Itoa n h0 h1 w htab).mono fun e w' ⟨h1, k, os, h2⟩ => ⟨h1, by
    subst h2
    refine ⟨rfl, rfl, rfl, by simp [Go.Sort.grow], fun k hk => ?_⟩
    show (w.heap ++ os)[k]? = _
    exact Array.getElem?_append_left hk⟩

/-- What a WriteString leaves, for a caller that keeps a box of an edit. -/
theorem write_go {b : Nat} {w0 W : World} {l : List UInt8} (h : Lib.IsBuilder 55 5 b b (Lib.byteCells l) W) (hb : Below b w0 W) (s : ByteArray) (hl : l.length + s.size ≤ 140737488355328) :
    Calls Tryd.prog 19 #[.pointer (some ⟨b, 0, none⟩), .string s] W fun e w' => (∃ v, e = .returned v) ∧ Lib.IsBuilder 55 5 b b (Lib.byteCells (l ++ s.data.toList)) w' ∧ Below b w0 w' ∧ Lib.OthersKept 5 (some b) W w' :=
  (write_keep b l s W h hl).mono fun _ _ ⟨h1, h2, h3, h4⟩ => ⟨h1, h2, hb.trans h3, h4⟩

theorem ownsRow_keep {W W' : World} {base b n : Nat} {v : Value} {xs : List Value} (h : W.ownsRow base 9 1 v n xs) (hk : Lib.OthersKept 5 (some b) W W') (hb : b < base) : W'.ownsRow base 9 1 v n xs := by
  refine ⟨h.1, ?_⟩
  rcases h.2 with h0 | ⟨g, cap, cur, hv, hg, hgg, hr⟩
  · exact .inl h0
  · exact .inr ⟨g, cap, cur, hv, hg, hk g _ hgg (by simp; omega) (by rintro c fz e; cases e), hr⟩
theorem ownsRow_below {W W' : World} {base n : Nat} {v : Value} {xs : List Value} (h : W.ownsRow base 9 1 v n xs) (hb : Below W.heap.size W W') : W'.ownsRow base 9 1 v n xs :=
  h.kept (row := none) ⟨hb.os, hb.tape, hb.output, hb.size, fun k hk _ => hb.block k hk⟩ (by by_cases e : v.ownBlock = none <;> simp [e])
theorem row_cell {W : World} {base c i : Nat} {a : Option Addr} {X : List ByteArray} {x : ByteArray} (h : W.ownsRow base 9 1 (.slice a X.length c) X.length (X.map .string)) (hx : X[i]? = some x) :
    ∃ g, a = some ⟨g, 0, none⟩ ∧ W.cell? ⟨g, i, none⟩ = some (.string x) ∧ X.length ≤ c := by
  rcases h.2 with ⟨_, h1⟩ | ⟨g, cap, cur, hv, hb, hg, hn, hc, hs, ht⟩
  · rw [List.eq_nil_of_length_eq_zero h1] at hx; simp at hx
  · simp only [Value.slice.injEq] at hv
    obtain ⟨rfl, -, rfl⟩ := hv
    have := h.cells (g := g) rfl i (.string x) (by simp [hx])
    have e2 : (⟨g, 0, none⟩ : Addr).add i = ⟨g, i, none⟩ := by unfold Addr.add; split <;> simp_all
    rw [e2] at this
    exact ⟨g, rfl, this, hn⟩

set_option maxHeartbeats 8000000 in
set_option maxRecDepth 100000 in
theorem text_good (v : Value) (C : List Chg) (ml : Int) (w : World) (hC : ChgsAt w v C) (hm : w.cell? ⟨1, 0, none⟩ = some (.int .i64 ml)) (hp : Pow10 w) (hval : validF C = true) (hlen : (textL C).length ≤ 1000000000000) :
    Calls Tryd.prog 9 #[v] w fun r w' => r = .returned (.tuple #[.string ⟨(textL C).toArray⟩, .int .i64 0]) ∧ Below w.heap.size w w' := by
  have hva := valid_any v C ml w hC hm
  rw [hval] at hva
  have hall := validGo_at C none hval
  obtain ⟨a, c, rfl, hc, hcm, hC2, hCn, hC⟩ := hC
  obtain ⟨m, hm2⟩ : ∃ m, C.length = m := ⟨_, rfl⟩
  rw [hm2] at hc hC2 hva ⊢
  have HC := Lib.hid hC; clear hC
  have HM := Lib.hid hm2; clear hm2
  have HCN := Lib.hid hCn; clear hCn
  have HP := Lib.hid hp; clear hp
  have HVA := Lib.hid hva; clear hva
  have HALL := Lib.hid hall; clear hall
  have HLEN := Lib.hid hlen; clear hlen hval hm
  go_enter Tryd.func9, Tryd.ntmps9
  go_wp2_with fail
  refine HVA.out.mono ?_
  rintro e w1 ⟨rfl, hb1⟩
  have HB1 := Lib.hid hb1
  clear hb1 HVA
  go_wp2
  go_loopw [17] (fun i wr => ∃ (k : Nat) (l : List UInt8), k ≤ m ∧ i = .int .i64 k ∧ Lib.IsBuilder 55 5 w1.heap.size w1.heap.size (Lib.byteCells l) wr ∧ Below w1.heap.size w1 wr ∧ l ++ textL (C.drop k) = textL C) (fun i _ => m - (intOf i).toNat)
  case atStart => exact ⟨0, [], Nat.zero_le _, rfl, Lib.fresh_isBuilder 55 5 w1, (Below.refl _ _).alloc (Nat.le_refl _) _, rfl⟩
  case round =>
    obtain ⟨k, l, hk, rfl, hib, hbl, htl⟩ := hrel
    by_cases hkm : k < m
    · obtain ⟨x, hx⟩ : ∃ x, C[k]? = some x := ⟨C[k]'(by have := HM.out; omega), List.getElem?_eq_getElem _⟩
      have hxn := HCN.out x (List.mem_of_getElem? hx)
      have hxe := edsOk_at _ _ (HALL.out x (List.mem_of_getElem? hx))
      rcases HC.out with h | ⟨b, o, rfl, hlt, hcs⟩
      · rw [h] at hx; simp at hx
      obtain ⟨d1, ev, d2, hev⟩ := hcs k x hx
      rw [textL_drop hx] at htl
      have hbw : Below w.heap.size w wr := HB1.out.trans (hbl.mono HB1.out.size)
      have c1 := cell_later hbw d1
      have c2 := cell_later hbw d2
      obtain ⟨a2, cap2, rfl, hcap2, hE2, hEf, hEc⟩ := hev
      obtain ⟨m2, hm2⟩ : ∃ m2, x.eds.length = m2 := ⟨_, rfl⟩
      obtain ⟨nm, hnm⟩ : ∃ nm, x.name = nm := ⟨_, rfl⟩
      rw [hm2] at hcap2 hE2 c2
      rw [hnm] at c1 hxn htl
      obtain ⟨s1, hs1⟩ : ∃ s1 : ByteArray, (⟨#[61, 32]⟩ ++ nm) ++ ⟨#[10]⟩ = s1 := ⟨_, rfl⟩
      have hs1l : s1.data.toList = [61, 32] ++ nm.data.toList ++ [10] := by rw [← hs1]; simp
      rw [← hs1l] at htl
      have hs1s : s1.data.toList.length = s1.size := Array.length_toList
      have hle : l.length + s1.size ≤ 140737488355328 := by
        have h1 := congrArg List.length htl
        simp only [List.length_append] at h1
        have := HLEN.out
        omega
      have hA : ∀ cs, Below w1.heap.size w1 (wr.alloc (.cells cs 44)) := fun cs => hbl.alloc hbl.size _
      have hIB : ∀ cs, Lib.IsBuilder 55 5 w1.heap.size w1.heap.size (Lib.byteCells l) (wr.alloc (.cells cs 44)) := fun cs => isBuilder_below hib ((Below.refl _ _).alloc (Nat.le_refl _) _)
      have hbN : w1.heap.size < wr.heap.size := by rcases hib with h | h <;> exact h.lt
      have q1 : ¬ 9223372036854775807 < 2 + nm.size := by omega
      have q2 : ¬ 9223372036854775807 < 2 + nm.size + 1 := by omega
      have hltr : b < wr.heap.size := Nat.lt_of_lt_of_le hlt hbw.size
      have HA := Lib.hid hA
      have HIB := Lib.hid hIB
      have HTL := Lib.hid htl
      have HLE := Lib.hid hle
      have HEF := Lib.hid hEf
      have HEC := Lib.hid hEc
      have HM2 := Lib.hid hm2
      have HXE := Lib.hid hxe
      have HS1 := Lib.hid hs1
      clear hA hIB htl hib hbl hEf hEc hm2 hnm hxe hs1 hs1l hs1s hle hx hcs d1 d2 hlt hbw
      go_wp2_with fail
      rw [HS1.out]
      refine (write_go (HIB.out _) (HA.out _) s1 HLE.out).mono ?_
      rintro e w2 ⟨⟨v2, rfl⟩, hi2, hb2, hk2⟩
      have hn2 : w2.heap[wr.heap.size]? = some (.cells #[.string nm, .slice a2 m2 cap2] 44 (0, 0)) := hk2 _ _ (World.alloc_heap_new wr _) (by simp; omega) (by rintro c fz ⟨⟩)
      have y1 : w2.cell? ⟨wr.heap.size, 1, none⟩ = some (.slice a2 m2 cap2) := by rw [Lib.cell_of_heap hn2]; rfl
      have HI2 := Lib.hid hi2
      have HB2 := Lib.hid hb2
      clear hi2 hb2 hk2 hn2
      go_wp2
      go_loopw [29] (fun i wr => ∃ (j : Nat) (l : List UInt8), j ≤ m2 ∧ i = .int .i64 j ∧ Lib.IsBuilder 55 5 w1.heap.size w1.heap.size (Lib.byteCells l) wr ∧ Below w1.heap.size w1 wr ∧ l ++ (edsText (x.eds.drop j) ++ textL (C.drop (k + 1))) = textL C) (fun i _ => m2 - (intOf i).toNat)
      case atStart => exact ⟨0, _, Nat.zero_le _, rfl, HI2.out, HB2.out, by rw [← HTL.out]; simp⟩
      case round =>
        clear HIB HA HTL HI2 HB2 y1
        obtain ⟨j, l, hj, rfl, hib, hbl, htl⟩ := hrel
        by_cases hjm : j < m2
        · obtain ⟨e, he⟩ : ∃ e, x.eds[j]? = some e := ⟨x.eds[j]'(by have := HM2.out; omega), List.getElem?_eq_getElem _⟩
          have hef := (HEF.out e (List.mem_of_getElem? he)).2.2.2.2
          obtain ⟨f0, f1, f2, f3⟩ := HXE.out e (List.mem_of_getElem? he)
          rcases HEC.out with h | ⟨b2, o2, rfl, hlt2, hcs2⟩
          · rw [h] at he; simp at he
          obtain ⟨e1, e2, e3⟩ := hcs2 j e he
          rw [edsText_drop he] at htl
          have hbw : Below w.heap.size w wr := HB1.out.trans (hbl.mono HB1.out.size)
          have c1 := cell_later hbw e1
          have c2 := cell_later hbw e2
          have c3 := cell_later hbw e3
          have hlt3 : b2 < wr.heap.size := Nat.lt_of_lt_of_le hlt2 hbw.size
          have hbN : w1.heap.size < wr.heap.size := by rcases hib with h | h <;> exact h.lt
          have hA : ∀ cs, Below w1.heap.size w1 (wr.alloc (.cells cs 46)) := fun cs => hbl.alloc hbl.size _
          have hIB : ∀ cs, Lib.IsBuilder 55 5 w1.heap.size w1.heap.size (Lib.byteCells l) (wr.alloc (.cells cs 46)) := fun cs => isBuilder_below hib ((Below.refl _ _).alloc (Nat.le_refl _) _)
          have hli := fun W => lines_any e.tx (by omega) W
          obtain ⟨X, hX⟩ : ∃ X, linesOf e.tx = X := ⟨_, rfl⟩
          rw [hX] at hli f3
          have hHT : headText e = [64, 32] ++ Lib.itoa (e.fr + 1) ++ [32] ++ Lib.itoa (e.tt - e.fr) ++ [32] ++ Lib.itoa X.length ++ [10] := by unfold headText; rw [hX]
          rw [hHT, hX] at htl
          have g1 := Lib.itoa_length_le (e.fr + 1) (by omega) (by omega)
          have g2 := Lib.itoa_length_le (e.tt - e.fr) (by omega) (by omega)
          have g3 := Lib.itoa_length_le (X.length : Int) (by omega) (by omega)
          have hi1 : ∀ W, Below w1.heap.size w1 W → Calls Tryd.prog 21 #[.int .i64 (e.fr + 1)] W fun r w' => r = .returned (.string ⟨(Lib.itoa (e.fr + 1)).toArray⟩) ∧ Below W.heap.size W w' := fun W hW => itoa_str _ (by omega) (by omega) W (pow10_below HP.out (HB1.out.trans (hW.mono HB1.out.size)))
          have hi2 : ∀ W, Below w1.heap.size w1 W → Calls Tryd.prog 21 #[.int .i64 (e.tt - e.fr)] W fun r w' => r = .returned (.string ⟨(Lib.itoa (e.tt - e.fr)).toArray⟩) ∧ Below W.heap.size W w' := fun W hW => itoa_str _ (by omega) (by omega) W (pow10_below HP.out (HB1.out.trans (hW.mono HB1.out.size)))
          have hi3 : ∀ W, Below w1.heap.size w1 W → Calls Tryd.prog 21 #[.int .i64 (X.length : Int)] W fun r w' => r = .returned (.string ⟨(Lib.itoa (X.length : Int)).toArray⟩) ∧ Below W.heap.size W w' := fun W hW => itoa_str _ (by omega) (by omega) W (pow10_below HP.out (HB1.out.trans (hW.mono HB1.out.size)))
          obtain ⟨i1, hd1⟩ : ∃ i1 : ByteArray, (⟨(Lib.itoa (e.fr + 1)).toArray⟩ : ByteArray) = i1 := ⟨_, rfl⟩
          obtain ⟨i2, hd2⟩ : ∃ i2 : ByteArray, (⟨(Lib.itoa (e.tt - e.fr)).toArray⟩ : ByteArray) = i2 := ⟨_, rfl⟩
          obtain ⟨i3, hd3⟩ : ∃ i3 : ByteArray, (⟨(Lib.itoa (X.length : Int)).toArray⟩ : ByteArray) = i3 := ⟨_, rfl⟩
          rw [hd1] at hi1
          rw [hd2] at hi2
          rw [hd3] at hi3
          have z1 : i1.size ≤ 21 := by rw [← hd1]; show (Lib.itoa _).toArray.size ≤ 21; rw [List.size_toArray]; exact g1
          have z2 : i2.size ≤ 21 := by rw [← hd2]; show (Lib.itoa _).toArray.size ≤ 21; rw [List.size_toArray]; exact g2
          have z3 : i3.size ≤ 21 := by rw [← hd3]; show (Lib.itoa _).toArray.size ≤ 21; rw [List.size_toArray]; exact g3
          obtain ⟨s2, hs2⟩ : ∃ s2 : ByteArray, (((((⟨#[64, 32]⟩ ++ i1) ++ ⟨#[32]⟩) ++ i2) ++ ⟨#[32]⟩) ++ i3) ++ ⟨#[10]⟩ = s2 := ⟨_, rfl⟩
          have hs2l : s2.data.toList = [64, 32] ++ Lib.itoa (e.fr + 1) ++ [32] ++ Lib.itoa (e.tt - e.fr) ++ [32] ++ Lib.itoa X.length ++ [10] := by rw [← hs2, ← hd1, ← hd2, ← hd3]; simp
          rw [← hs2l] at htl
          have hs2s : s2.data.toList.length = s2.size := Array.length_toList
          have hle2 : l.length + s2.size ≤ 140737488355328 := by
            have h1 := congrArg List.length htl
            simp only [List.length_append] at h1
            have := HLEN.out
            omega
          have q1 : ¬ 9223372036854775807 < 2 + i1.size := by omega
          have q2 : ¬ 9223372036854775807 < 2 + i1.size + 1 := by omega
          have q3 : ¬ 9223372036854775807 < 2 + i1.size + 1 + i2.size := by omega
          have q4 : ¬ 9223372036854775807 < 2 + i1.size + 1 + i2.size + 1 := by omega
          have q5 : ¬ 9223372036854775807 < 2 + i1.size + 1 + i2.size + 1 + i3.size := by omega
          have q6 : ¬ 9223372036854775807 < 2 + i1.size + 1 + i2.size + 1 + i3.size + 1 := by omega
          have u1 : IntKind.i64.wrap (e.fr + 1) = e.fr + 1 := IntWalk.i64_in _ (by omega)
          have u2 : IntKind.i64.wrap (e.tt - e.fr) = e.tt - e.fr := IntWalk.i64_in _ (by omega)
          obtain ⟨n9, hn9⟩ : ∃ n9, X.length = n9 := ⟨_, rfl⟩
          rw [hn9] at hi3 f3
          have HI1 := Lib.hid hi1
          have HI2 := Lib.hid hi2
          have HI3 := Lib.hid hi3
          have HS2 := Lib.hid hs2
          have HLE2 := Lib.hid hle2
          have HLI := Lib.hid hli
          have HTL := Lib.hid htl
          have HA := Lib.hid hA
          have HIB := Lib.hid hIB
          have HN9 := Lib.hid hn9
          have HX := Lib.hid hX
          have HBL := Lib.hid hbl
          clear hi1 hi2 hi3 hs2 hle2 hli htl hA hIB hn9 hX hbl hib hbw e1 e2 e3 hlt2 he hs2l hs2s hd1 hd2 hd3 g1 g2 g3 hHT z1 z2 z3 hcs2
          obtain ⟨N, hN⟩ : ∃ N, wr.heap.size = N := ⟨_, rfl⟩
          have HNB := Lib.hid (show w1.heap.size < N by rw [← hN]; exact hbN)
          go_wp2_with fail
          refine (HLI.out _).mono ?_
          rintro e4 w4 ⟨v7, rfl, hR4, hb4⟩
          have hE0 : EdBox (wr.alloc (.cells #[.int .i64 e.fr, .int .i64 e.tt, .string e.tx] 46)) N e := by rw [← hN]; exact World.alloc_heap_new wr _
          have hbx4 : Below w1.heap.size w1 w4 := (HA.out _).trans (hb4.mono (HA.out _).size)
          have hE4 : EdBox w4 N e := EdBox.below hE0 hb4
          have hI4 := isBuilder_below (HIB.out _) hb4
          have hR4 := ownsRow_base (b := w1.heap.size + 1) hR4 (by rw [World.size_alloc]; omega)
          obtain ⟨a7, c7, hv7⟩ : ∃ a c, v7 = .slice a X.length c := by
            rcases hR4.2 with ⟨h, h1⟩ | ⟨g, cap, cur, h, _⟩
            · exact ⟨_, _, h.trans (by rw [h1])⟩
            · exact ⟨_, _, h⟩
          subst hv7
          rw [HN9.out] at hR4 ⊢
          rw [hN] at *
          clear hE0 hb4 HIB
          have hE4d : EdBox w4.drew N e := hE4
          have hR4d : w4.drew.ownsRow (w1.heap.size + 1) 9 1 (.slice a7 n9 c7) n9 (X.map .string) := hR4
          have hI4d : Lib.IsBuilder 55 5 w1.heap.size w1.heap.size (Lib.byteCells l) w4.drew := hI4
          have hbx4d : Below w1.heap.size w1 w4.drew := below_drew hbx4
          have y0 : w4.drew.cell? ⟨N, 0, none⟩ = some (.int .i64 e.fr) := hE4.c0
          have y1 : w4.drew.cell? ⟨N, 1, none⟩ = some (.int .i64 e.tt) := hE4.c1
          have y2 : w4.drew.cell? ⟨N, 2, none⟩ = some (.string e.tx) := hE4.c2
          go_wp2_with fail
          refine wp_region_held_drew (S := fun w' : World => w'.cell? ⟨N, 0, none⟩ = some (.int .i64 e.fr) ∧ w'.cell? ⟨N, 1, none⟩ = some (.int .i64 e.tt) ∧ w'.cell? ⟨N, 2, none⟩ = some (.string e.tx)) (by kernel_rfl) ⟨y0, y1, y2⟩ (fun hHeld => ?_)
          refine takeH (i := 0) (d := some 36) (v := ?_) rfl rfl (by kernel_rfl) (by kernel_rfl) (by kernel_rfl) (fun _ _ _ h => h) (by rfl) ?_ (by assumption) ?_
          rotate_left 1
          · intro w hSw; (try dsimp only at hSw); go_simp; try with_reducible rfl
          simp only [Act.put, List.setIfInBounds_toArray, List.set]
          refine takeH (i := 1) (d := some 37) (v := ?_) rfl rfl (by kernel_rfl) (by kernel_rfl) (by kernel_rfl) (fun _ _ _ h => h) (by rfl) ?_ (by assumption) ?_
          rotate_left 1
          · intro w hSw; (try dsimp only at hSw); go_simp; try with_reducible rfl
          simp only [Act.put, List.setIfInBounds_toArray, List.set]
          refine takeH (i := 2) (d := some 38) (v := ?_) rfl rfl (by kernel_rfl) (by kernel_rfl) (by kernel_rfl) (fun _ _ _ h => h) (by rfl) ?_ (by assumption) ?_
          rotate_left 1
          · intro w hSw; (try dsimp only at hSw); go_simp; try with_reducible rfl
          simp only [Act.put, List.setIfInBounds_toArray, List.set]
          refine takeH (i := 6) (d := some 42) (v := ?_) rfl rfl (by kernel_rfl) (by kernel_rfl) (by kernel_rfl) (fun _ _ _ h => h) (by rfl) ?_ (by assumption) ?_
          rotate_left 1
          · intro w hSw; (try dsimp only at hSw); go_simp; try with_reducible rfl
          simp only [Act.put, List.setIfInBounds_toArray, List.set]
          refine takeH (i := 7) (d := some 43) (v := ?_) rfl rfl (by kernel_rfl) (by kernel_rfl) (by kernel_rfl) (fun _ _ _ h => h) (by rfl) ?_ (by assumption) ?_
          rotate_left 1
          · intro w hSw; (try dsimp only at hSw); go_simp; try with_reducible rfl
          simp only [Act.put, List.setIfInBounds_toArray, List.set]
          refine takeH (i := 8) (d := some 44) (v := ?_) rfl rfl (by kernel_rfl) (by kernel_rfl) (by kernel_rfl) (fun _ _ _ h => h) (by rfl) ?_ (by assumption) ?_
          rotate_left 1
          · intro w hSw; (try dsimp only at hSw); go_simp; try with_reducible rfl
          simp only [Act.put, List.setIfInBounds_toArray, List.set]
          refine takeH (i := 9) (d := some 45) (v := ?_) rfl rfl (by kernel_rfl) (by kernel_rfl) (by kernel_rfl) (fun _ _ _ h => h) (by rfl) ?_ (by assumption) ?_
          rotate_left 1
          · intro w hSw; (try dsimp only at hSw); go_simp; try with_reducible rfl
          simp only [Act.put, List.setIfInBounds_toArray, List.set]
          refine takeH (i := 10) (d := some 46) (v := ?_) rfl rfl (by kernel_rfl) (by kernel_rfl) (by kernel_rfl) (fun _ _ _ h => h) (by rfl) ?_ (by assumption) ?_
          rotate_left 1
          · intro w hSw; (try dsimp only at hSw); go_simp; try with_reducible rfl
          simp only [Act.put, List.setIfInBounds_toArray, List.set]
          refine takeH (i := 14) (d := some 50) (v := ?_) rfl rfl (by kernel_rfl) (by kernel_rfl) (by kernel_rfl) (fun _ _ _ h => h) (by rfl) ?_ (by assumption) ?_
          rotate_left 1
          · intro w hSw; (try dsimp only at hSw); go_simp; try with_reducible rfl
          simp only [Act.put, List.setIfInBounds_toArray, List.set]
          refine takeH (i := 15) (d := some 51) (v := ?_) rfl rfl (by kernel_rfl) (by kernel_rfl) (by kernel_rfl) (fun _ _ _ h => h) (by rfl) ?_ (by assumption) ?_
          rotate_left 1
          · intro w hSw; (try dsimp only at hSw); go_simp; try with_reducible rfl
          simp only [Act.put, List.setIfInBounds_toArray, List.set]
          refine wpAnyH_ready (rs := [3]) (by kernel_rfl) (by simp) ?_
          refine AllReadyH.cons rfl (fun K hK => ?_) AllReadyH.nil
          go_simp
          go_at_call 21
          refine (HI1.out _ hbx4d).mono ?_
          rintro e5 w5 ⟨rfl, hb5⟩
          have hbx5 : Below w1.heap.size w1 w5 := hbx4d.trans (hb5.mono hbx4d.size)
          have hE5 : EdBox w5 N e := EdBox.below hE4d hb5
          have hR5 := ownsRow_below hR4d hb5
          have hI5 := isBuilder_below hI4d hb5
          go_wp2_with fail
          refine hK.out _ _ ⟨hE5.c0, hE5.c1, hE5.c2⟩ (fun hHeld => ?_)
          clear hK K
          refine takeH (i := 4) (d := some 40) (v := ?_) rfl rfl (by kernel_rfl) (by kernel_rfl) (by kernel_rfl) (fun _ _ _ h => h) (by rfl) ?_ (by assumption) ?_
          rotate_left 1
          · intro w hSw; (try dsimp only at hSw); go_simp; try with_reducible rfl
          simp only [Act.put, List.setIfInBounds_toArray, List.set]
          refine takeH (i := 5) (d := some 41) (v := ?_) rfl rfl (by kernel_rfl) (by kernel_rfl) (by kernel_rfl) (fun _ _ _ h => h) (by rfl) ?_ (by assumption) ?_
          rotate_left 1
          · intro w hSw; (try dsimp only at hSw); go_simp; try with_reducible rfl
          simp only [Act.put, List.setIfInBounds_toArray, List.set]
          refine wpAnyH_ready (rs := [11]) (by kernel_rfl) (by simp) ?_
          refine AllReadyH.cons rfl (fun K hK => ?_) AllReadyH.nil
          go_simp
          go_at_call 21
          refine (HI2.out _ hbx5).mono ?_
          rintro e6 w6 ⟨rfl, hb6⟩
          have hbx6 : Below w1.heap.size w1 w6 := hbx5.trans (hb6.mono hbx5.size)
          have hE6 : EdBox w6 N e := EdBox.below hE5 hb6
          have hR6 := ownsRow_below hR5 hb6
          have hI6 := isBuilder_below hI5 hb6
          go_wp2_with fail
          refine hK.out _ _ ⟨hE6.c0, hE6.c1, hE6.c2⟩ (fun hHeld => ?_)
          clear hK K
          refine takeH (i := 12) (d := some 48) (v := ?_) rfl rfl (by kernel_rfl) (by kernel_rfl) (by kernel_rfl) (fun _ _ _ h => h) (by rfl) ?_ (by assumption) ?_
          rotate_left 1
          · intro w hSw; (try dsimp only at hSw); go_simp; try with_reducible rfl
          simp only [Act.put, List.setIfInBounds_toArray, List.set]
          refine takeH (i := 13) (d := some 49) (v := ?_) rfl rfl (by kernel_rfl) (by kernel_rfl) (by kernel_rfl) (fun _ _ _ h => h) (by rfl) ?_ (by assumption) ?_
          rotate_left 1
          · intro w hSw; (try dsimp only at hSw); go_simp; try with_reducible rfl
          simp only [Act.put, List.setIfInBounds_toArray, List.set]
          refine wpAnyH_ready (rs := [16]) (by kernel_rfl) (by simp) ?_
          refine AllReadyH.cons rfl (fun K hK => ?_) AllReadyH.nil
          go_simp
          go_at_call 21
          refine (HI3.out _ hbx6).mono ?_
          rintro e7 w7 ⟨rfl, hb7⟩
          have hbx7 : Below w1.heap.size w1 w7 := hbx6.trans (hb7.mono hbx6.size)
          have hE7 : EdBox w7 N e := EdBox.below hE6 hb7
          have hR7 := ownsRow_below hR6 hb7
          have hI7 := isBuilder_below hI6 hb7
          go_wp2_with fail
          refine hK.out _ _ ⟨hE7.c0, hE7.c1, hE7.c2⟩ (fun hHeld => ?_)
          clear hK K
          refine takeH (i := 17) (d := some 53) (v := ?_) rfl rfl (by kernel_rfl) (by kernel_rfl) (by kernel_rfl) (fun _ _ _ h => h) (by rfl) ?_ (by assumption) ?_
          rotate_left 1
          · intro w hSw; (try dsimp only at hSw); go_simp; try with_reducible rfl
          simp only [Act.put, List.setIfInBounds_toArray, List.set]
          refine takeH (i := 18) (d := some 54) (v := ?_) rfl rfl (by kernel_rfl) (by kernel_rfl) (by kernel_rfl) (fun _ _ _ h => h) (by rfl) ?_ (by assumption) ?_
          rotate_left 1
          · intro w hSw; (try dsimp only at hSw); go_simp; try with_reducible rfl
          simp only [Act.put, List.setIfInBounds_toArray, List.set]
          refine wpAnyH_ready (rs := [19]) (by kernel_rfl) (by simp) ?_
          refine AllReadyH.cons rfl (fun K hK => ?_) AllReadyH.nil
          go_simp
          go_at_call 19
          rw [HS2.out]
          refine (write_go hI7 hbx7 s2 HLE2.out).mono ?_
          rintro e8 w8 ⟨⟨v8, rfl⟩, hI8, hbx8, hk8⟩
          have hE8 : EdBox w8 N e := EdBox.keep hE7 hk8 (by have := HNB.out; omega)
          have hR8 := ownsRow_keep hR7 hk8 (Nat.lt_succ_self _)
          go_wp2_with fail
          refine hK.out _ _ ⟨hE8.c0, hE8.c1, hE8.c2⟩ (fun hHeld => ?_)
          clear hK K
          refine wpAnyH_done (by kernel_rfl) ?_ _
          have HX8 := Lib.hid (And.intro hI8 (And.intro hbx8 (And.intro hE8 hR8)))
          clear hI8 hbx8 hE8 hR8 hk8 hb5 hbx5 hE5 hR5 hI5 hb6 hbx6 hE6 hR6 hI6 hb7 hbx7 hE7 hR7 hI7 hE4 hR4 hI4 hbx4 hE4d hR4d hI4d hbx4d y0 y1 y2 HI1 HI2 HI3 HLI HLE2 HS2 HBL HA u1 u2 q1 q2 q3 q4 q5 q6 c1 c2 c3
          go_wp2
          go_loopw [58] (fun i wr => ∃ (q : Nat) (l : List UInt8), q ≤ n9 ∧ i = .int .i64 q ∧ Lib.IsBuilder 55 5 w1.heap.size w1.heap.size (Lib.byteCells l) wr ∧ Below w1.heap.size w1 wr ∧ EdBox wr N e ∧ wr.ownsRow (w1.heap.size + 1) 9 1 (.slice a7 n9 c7) n9 (X.map .string) ∧
            l ++ (linesText (X.drop q) ++ (endText e ++ (edsText (x.eds.drop (j + 1)) ++ textL (C.drop (k + 1))))) = textL C) (fun i _ => n9 - (intOf i).toNat)
          case atStart => exact ⟨0, _, Nat.zero_le _, rfl, HX8.out.1, HX8.out.2.1, HX8.out.2.2.1, HX8.out.2.2.2, by rw [← HTL.out]; simp⟩
          case round =>
            clear HX8 HTL
            obtain ⟨q, l, hq, rfl, hib, hbl, hE, hR, htl⟩ := hrel
            by_cases hqn : q < n9
            · obtain ⟨x9, hx9⟩ : ∃ x9, X[q]? = some x9 := ⟨X[q]'(by have := HN9.out; omega), List.getElem?_eq_getElem _⟩
              have hx9s : x9.size ≤ e.tx.size := by
                have := List.mem_of_getElem? hx9
                rw [← HX.out] at this
                exact lines_size this
              rw [← HN9.out] at hR
              obtain ⟨g7, rfl, hc9, hnc⟩ := row_cell hR hx9
              rw [HN9.out] at hR hnc
              rw [linesText_drop hx9] at htl
              have hpl : ((⟨#[43]⟩ : ByteArray) ++ x9).data.toList = 43 :: x9.data.toList := by simp
              have hps : ((⟨#[43]⟩ : ByteArray) ++ x9).size = 1 + x9.size := by rw [ByteArray.size_append]; rfl
              have hle9 : l.length + ((⟨#[43]⟩ : ByteArray) ++ x9).size ≤ 140737488355328 := by
                have h1 := congrArg List.length htl
                have h2 : x9.data.toList.length = x9.size := Array.length_toList
                simp only [List.length_append, List.length_cons] at h1
                have := HLEN.out
                omega
              rw [← hpl] at htl
              have qq : ¬ 9223372036854775807 < 1 + x9.size := by omega
              have hwg := write_go hib hbl (⟨#[43]⟩ ++ x9) hle9
              have HWG := Lib.hid hwg
              have HTL := Lib.hid htl
              have HEE := Lib.hid hE
              have HRR := Lib.hid hR
              clear hwg htl hE hR hib hbl hpl hps hle9 hx9
              go_wp2_with fail
              refine HWG.out.mono ?_
              rintro e9 w9 ⟨⟨v9, rfl⟩, hI9, hbx9, hk9⟩
              have HX9 := Lib.hid (And.intro hI9 (And.intro hbx9 (And.intro (EdBox.keep HEE.out hk9 (by have := HNB.out; omega)) (ownsRow_keep HRR.out hk9 (Nat.lt_succ_self _)))))
              clear hI9 hbx9 hk9
              go_wp2
              go_roundw
              case rel => exact ⟨q + 1, _, by omega, by go_num, HX9.out.1, HX9.out.2.1, HX9.out.2.2.1, HX9.out.2.2.2, by rw [← HTL.out]; simp⟩
              case measure => simp [intOf]; omega
            · obtain rfl : q = n9 := by omega
              have hd : X.drop q = [] := List.drop_eq_nil_of_le (by have := HN9.out; omega)
              rw [hd] at htl
              have htl2 : l ++ (endText e ++ (edsText (x.eds.drop (j + 1)) ++ textL (C.drop (k + 1)))) = textL C := by rw [← htl]; rfl
              have d2 := hE.c2
              by_cases hq0 : q = 0
              · have he0 : endText e = [] := by unfold endText; rw [HX.out, HN9.out, hq0]; rfl
                rw [he0] at htl2
                have HTL := Lib.hid htl2
                have g0 : decide (0 < q) = false := by simp; omega
                have HXQ := Lib.hid (And.intro hib hbl)
                have HQ0 := Lib.hid hq0
                clear htl htl2 hib hbl hE hR hd he0 hq0
                go_wp2
                go_roundw
                case rel => exact ⟨j + 1, l, by omega, by go_num, HXQ.out.1, HXQ.out.2, HTL.out⟩
                case measure => simp [intOf]; omega
              · have g0 : 0 < q := by omega
                have hsx := fun W => Tryd.strings_HasSuffix e.tx ⟨#[10]⟩ W (by omega)
                cases hsf : Lib.hasSuffix e.tx.data.toList [10] with
                | true =>
                  have he0 : endText e = [] := by unfold endText; rw [hsf]; simp
                  rw [he0] at htl2
                  rw [show (⟨#[10]⟩ : ByteArray).data.toList = [10] from rfl, hsf] at hsx
                  have HTL := Lib.hid htl2
                  have HXQ := Lib.hid (And.intro hib hbl)
                  have HSX := Lib.hid hsx
                  clear htl htl2 hib hbl hE hR hd he0 hq0 hsx hsf
                  go_wp2_with (first | (go_at_call 22; refine (HSX.out _).mono ?_; rintro e5 w5 ⟨rfl, rfl⟩) | go_in)
                  go_roundw
                  case rel => exact ⟨j + 1, l, by omega, by go_num, HXQ.out.1, HXQ.out.2, HTL.out⟩
                  case measure => simp [intOf]; omega
                | false =>
                  have he0 : endText e = (⟨#[10, 45, 10]⟩ : ByteArray).data.toList := by unfold endText; rw [hsf, HX.out, HN9.out]; simp [hq0]
                  rw [he0] at htl2
                  rw [show (⟨#[10]⟩ : ByteArray).data.toList = [10] from rfl, hsf] at hsx
                  have hle9 : l.length + (⟨#[10, 45, 10]⟩ : ByteArray).size ≤ 140737488355328 := by
                    have h1 := congrArg List.length htl2
                    simp only [List.length_append] at h1
                    have h2 : (⟨#[10, 45, 10]⟩ : ByteArray).size = 3 := rfl
                    have := HLEN.out
                    omega
                  have hwg := write_go hib hbl ⟨#[10, 45, 10]⟩ hle9
                  have HWG := Lib.hid hwg
                  have HTL := Lib.hid htl2
                  have HSX := Lib.hid hsx
                  clear htl htl2 hib hbl hE hR hd he0 hq0 hsx hsf hwg hle9
                  go_wp2_with (first | (go_at_call 22; refine (HSX.out _).mono ?_; rintro e5 w5 ⟨rfl, rfl⟩) | (go_at_call 19; refine HWG.out.mono ?_; rintro e9 w9 ⟨⟨v9, rfl⟩, hI9, hbx9, hk9⟩) | go_in)
                  go_roundw
                  case rel => exact ⟨j + 1, _, by omega, by go_num, hI9, hbx9, by rw [← HTL.out]; simp⟩
                  case measure => simp [intOf]; omega
        · obtain rfl : j = m2 := by omega
          have hd : x.eds.drop j = [] := List.drop_eq_nil_of_le (by have := HM2.out; omega)
          rw [hd] at htl
          have HTL := Lib.hid (show l ++ textL (C.drop (k + 1)) = textL C by rw [← htl]; rfl)
          have HXQ := Lib.hid (And.intro hib hbl)
          clear htl hd hib hbl
          go_wp2
          go_roundw
          case rel => exact ⟨k + 1, l, by omega, by go_num, HXQ.out.1, HXQ.out.2, HTL.out⟩
          case measure => simp [intOf]; omega
    · obtain rfl : k = m := by omega
      have hd : C.drop k = [] := List.drop_eq_nil_of_le (by have := HM.out; omega)
      rw [hd] at htl
      have HTL := Lib.hid (show l = textL C by rw [← htl]; simp [textL])
      have hst := Tryd.Builder_String_any _ _ l wr hib hbl.size
      have HST := Lib.hid hst
      have HBL := Lib.hid hbl
      clear htl hd hib hbl hst
      go_wp2_with fail
      refine HST.out.mono ?_
      rintro e9 w9 ⟨rfl, hb9⟩
      go_wp2
      go_ret2
      exact ⟨by rw [← HTL.out]; rfl, HB1.out.trans ((HBL.out.trans hb9).mono HB1.out.size)⟩

set_option maxHeartbeats 1000000 in
theorem text_bad (v : Value) (C : List Chg) (ml : Int) (w : World) (hC : ChgsAt w v C) (hm : w.cell? ⟨1, 0, none⟩ = some (.int .i64 ml)) (hval : validF C = false) :
    Calls Tryd.prog 9 #[v] w fun r w' => r = .returned (.tuple #[.string ⟨#[]⟩, .int .i64 2]) ∧ Below w.heap.size w w' := by
  have hva := valid_any v C ml w hC hm
  rw [hval] at hva
  obtain ⟨a, c, rfl, _⟩ := hC
  have HVA := Lib.hid hva
  clear hva hm hval
  go_enter Tryd.func9, Tryd.ntmps9
  go_wp2_with fail
  refine HVA.out.mono ?_
  rintro e w1 ⟨rfl, hb1⟩
  go_wp2
  go_ret2
  exact ⟨rfl, hb1⟩

theorem text_any (v : Value) (C : List Chg) (ml : Int) (w : World) (hC : ChgsAt w v C) (hm : w.cell? ⟨1, 0, none⟩ = some (.int .i64 ml)) (hp : Pow10 w) (hlen : validF C = true → (textL C).length ≤ 1000000000000) :
    Calls Tryd.prog 9 #[v] w fun r w' => r = .returned (.tuple #[.string (textF C).1, .int .i64 (textF C).2]) ∧ Below w.heap.size w w' := by
  unfold textF
  cases h : validF C with
  | true => exact text_good v C ml w hC hm hp h (hlen h)
  | false => exact text_bad v C ml w hC hm h

theorem linesText_length (X : List ByteArray) : (linesText X).length = X.length + (joinB X).length := by
  induction X with
  | nil => rfl
  | cons x X ih =>
    simp only [linesText, joinB, List.flatMap_cons, List.map_cons, List.flatten_cons, List.length_append, List.length_cons] at ih ⊢
    omega

theorem edText_length (e : Ed) (h0 : 0 ≤ e.fr) (h1 : e.fr ≤ e.tt) (h2 : e.tt ≤ 65536) (h3 : (linesOf e.tx).length ≤ 65536) : (edText e).length ≤ 8 * (10 + e.tx.size) := by
  have g1 := Lib.itoa_length_le (e.fr + 1) (by omega) (by omega)
  have g2 := Lib.itoa_length_le (e.tt - e.fr) (by omega) (by omega)
  have g3 := Lib.itoa_length_le ((linesOf e.tx).length : Int) (by omega) (by omega)
  have g4 := linesText_length (linesOf e.tx)
  have g5 := linesF_length e.tx.size e.tx
  rw [linesOf_join] at g4
  have g6 : e.tx.data.toList.length = e.tx.size := Array.length_toList
  have g7 : (endText e).length ≤ 3 := by unfold endText; split <;> simp
  have g8 : (linesOf e.tx).length = (linesF e.tx.size e.tx).length := rfl
  simp only [edText, headText, List.length_append, List.length_cons, List.length_nil]
  omega

theorem edsText_length : ∀ (E : List Ed) (last : Int), edsOk last E = true → (edsText E).length ≤ 8 * sumE E
  | [], _, _ => by simp [edsText]
  | e :: E, last, h => by
    have h1 := edsOk_at (e :: E) last h e (by simp)
    have h2 := edText_length e h1.1 h1.2.1 h1.2.2.1 h1.2.2.2
    simp only [edsOk, Bool.and_eq_true] at h
    have h3 := edsText_length E e.tt h.2
    simp only [edsText, List.flatMap_cons, List.length_append, sumE, List.map_cons, List.sum_cons] at h3 ⊢
    omega

theorem textL_length (C : List Chg) (h : ∀ x ∈ C, edsOk (-1) x.eds = true) : (textL C).length ≤ 8 * sumC C := by
  induction C with
  | nil => simp [textL]
  | cons c C ih =>
    have h1 := edsText_length c.eds (-1) (h c (by simp))
    have h2 := ih (fun x hx => h x (by simp [hx]))
    have h3 : c.name.data.toList.length = c.name.size := Array.length_toList
    simp only [textL, chgText, List.flatMap_cons, List.length_append, sumC, List.map_cons, List.sum_cons, List.length_cons, List.length_nil] at h2 ⊢
    omega

end Go.Proofs.YtbodemkmjemdjaaDoor
