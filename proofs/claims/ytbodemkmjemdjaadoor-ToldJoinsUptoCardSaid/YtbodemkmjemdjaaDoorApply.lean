/-
  What edit.Apply answers: the text with its edits made.
-/
import Derived.Test.YtbodemkmjemdjaaDoorFit
import Derived.Deep.RegionHeld3
namespace Go.Proofs.YtbodemkmjemdjaaDoor
open Go.RowKit

def joinB (X : List ByteArray) : List UInt8 := (X.map (·.data.toList)).flatten
theorem join_empty (L : List (List UInt8)) : Lib.join L [] = L.flatten := by
  cases L with
  | nil => rfl
  | cons x r =>
    rw [Lib.join_cons, Lib.joinTail]
    simp

def applyGo (X : List ByteArray) : Nat → List Ed → List UInt8
  | at_, [] => joinB (X.drop at_)
  | at_, e :: E => joinB ((X.drop at_).take (e.fr.toNat - at_)) ++ (e.tx.data.toList ++ applyGo X e.tt.toNat E)

theorem isBuilder_below {B b : Nat} {bs : List Value} {w w' : World} (h : Lib.IsBuilder 55 5 B b bs w) (hb : Below w.heap.size w w') : Lib.IsBuilder 55 5 B b bs w' := by
  have key : ∀ p, Lib.BuilderAt 55 5 B b p bs w → Lib.BuilderAt 55 5 B b p bs w' := fun p hp => by
    have hlt := hp.lt
    obtain ⟨h1, v, h2, h3, h4⟩ := hp
    exact ⟨h1, v, (hb.block b hlt).trans h2, h3.kept (row := none) ⟨hb.os, hb.tape, hb.output, hb.size, fun k hk _ => hb.block k hk⟩ (by by_cases e : v.ownBlock = none <;> simp [e]), h4⟩
  rcases h with h | h
  · exact .inl (key _ h)
  · exact .inr (key _ h)

theorem join_any (a : Option Addr) (n c : Nat) (X : List ByteArray) (w : World) (hX : StrsAt w (.slice a n c) X) (hs : (joinB X).length ≤ 140737488355328) (hl : X.length ≤ 140737488355328) :
    Calls Tryd.prog 32 #[.slice a n c, .string ⟨#[]⟩] w fun e w' => e = .returned (.string ⟨(joinB X).toArray⟩) ∧ Below w.heap.size w w' := by
  obtain ⟨a', c', hv, hc, hcm, h⟩ := hX
  simp only [Value.slice.injEq] at hv
  obtain ⟨rfl, rfl, rfl⟩ := hv
  rcases h with ⟨rfl, rfl, rfl⟩ | ⟨b, o, rfl, hlt, hcs⟩
  · refine (Tryd.strings_Join_none none 0 ⟨#[]⟩ w).mono ?_
    rintro e w' ⟨rfl, rfl⟩
    exact ⟨rfl, Below.refl _ _⟩
  · have := Tryd.strings_Join b o c X ⟨#[]⟩ w hcs hlt hl hc (by rw [show (⟨#[]⟩ : ByteArray).data.toList = [] from rfl, join_empty]; exact hs)
    rw [show (⟨#[]⟩ : ByteArray).data.toList = [] from rfl, join_empty] at this
    exact this

theorem joinB_nil : joinB [] = [] := rfl
theorem joinB_append (X Y : List ByteArray) : joinB (X ++ Y) = joinB X ++ joinB Y := by simp [joinB]

theorem joinB_drop_le (X : List ByteArray) {i j : Nat} (h : i ≤ j) : (joinB (X.drop j)).length ≤ (joinB (X.drop i)).length := by
  have e : X.drop i = (X.drop i).take (j - i) ++ X.drop j := by
    conv => lhs; rw [← List.take_append_drop (j - i) (X.drop i)]
    rw [List.drop_drop]
    congr 2
    omega
  rw [e, joinB_append, List.length_append]
  omega

theorem linesF_join (f : Nat) (r : ByteArray) (h : r.size ≤ f) : joinB (linesF f r) = r.data.toList := by
  induction f generalizing r with
  | zero =>
    have : r.data.toList.length = 0 := by rw [Array.length_toList]; show r.size = 0; omega
    rw [List.eq_nil_of_length_eq_zero this]; rfl
  | succ f ih =>
    unfold linesF
    split
    · rename_i h0
      have : r.data.toList.length = 0 := by rw [Array.length_toList]; exact h0
      rw [List.eq_nil_of_length_eq_zero this]; rfl
    · rename_i h0
      obtain ⟨c1, c2⟩ := cutAt_bounds r h0
      have := ih (r.extract (cutAt r) r.size) (by rw [ByteArray.size_extract]; omega)
      have e : joinB (r.extract 0 (cutAt r) :: linesF f (r.extract (cutAt r) r.size)) = (r.extract 0 (cutAt r)).data.toList ++ joinB (linesF f (r.extract (cutAt r) r.size)) := by simp [joinB]
      rw [e, this]
      simp only [ByteArray.data_extract, Array.toList_extract, List.extract_eq_take_drop, Nat.sub_zero, List.drop_zero]
      rw [List.take_of_length_le (l := List.drop _ _) (by rw [List.length_drop, Array.length_toList]; exact Nat.le_refl _)]
      exact List.take_append_drop _ _
theorem linesOf_join (s : ByteArray) : joinB (linesOf s) = s.data.toList := linesF_join _ _ (Nat.le_refl _)

def sumTx : List Ed → Nat
  | [] => 0
  | e :: E => e.tx.size + sumTx E

theorem badEd_false {X : List ByteArray} {e : Ed} {last : Int} (h : badEd X e last = false) : last < e.fr ∧ e.fr ≤ e.tt ∧ e.tt ≤ (X.length : Int) := by
  simp only [badEd, Bool.or_eq_false_iff, decide_eq_false_iff_not] at h
  omega

theorem applyGo_length (X : List ByteArray) : ∀ (E : List Ed) (last : Int) (at_ : Nat), (at_ : Int) = max last 0 → fitGo X last E = true → (applyGo X at_ E).length ≤ (joinB (X.drop at_)).length + sumTx E
  | [], _, _, _, _ => by simp [applyGo, sumTx]
  | e :: E, last, at_, ha, hf => by
    simp only [fitGo, Bool.and_eq_true, Bool.not_eq_true'] at hf
    obtain ⟨b1, b2, b3⟩ := badEd_false hf.1
    have ih := applyGo_length X E e.tt e.tt.toNat (by omega) hf.2
    simp only [applyGo, List.length_append, sumTx]
    have e1 : X.drop at_ = (X.drop at_).take (e.fr.toNat - at_) ++ X.drop e.fr.toNat := by
      conv => lhs; rw [← List.take_append_drop (e.fr.toNat - at_) (X.drop at_)]
      rw [List.drop_drop]
      congr 2
      omega
    have e2 := joinB_drop_le X (i := e.fr.toNat) (j := e.tt.toNat) (by omega)
    have e3 : e.tx.data.toList.length = e.tx.size := Array.length_toList
    have e4 := congrArg (fun Y => (joinB Y).length) e1
    simp only [joinB_append, List.length_append] at e4
    omega

/-- A text with its edits made, and the error. -/
def applyF (s : ByteArray) (E : List Ed) : ByteArray × Int := if fitF (linesOf s) E = true then (⟨(applyGo (linesOf s) 0 E).toArray⟩, 0) else (ByteArray.empty, 180)

theorem fitGo_drop {X : List ByteArray} {last : Int} {E : List Ed} {k : Nat} {e : Ed} (he : E[k]? = some e) (h : fitGo X last (E.drop k) = true) : badEd X e last = false ∧ fitGo X e.tt (E.drop (k + 1)) = true := by
  obtain ⟨hk, he⟩ := List.getElem?_eq_some_iff.1 he
  rw [List.drop_eq_getElem_cons hk, he] at h
  simpa [fitGo] using h
theorem applyGo_drop (X : List ByteArray) (at_ : Nat) {E : List Ed} {k : Nat} {e : Ed} (he : E[k]? = some e) :
    applyGo X at_ (E.drop k) = joinB ((X.drop at_).take (e.fr.toNat - at_)) ++ (e.tx.data.toList ++ applyGo X e.tt.toNat (E.drop (k + 1))) := by
  obtain ⟨hk, he⟩ := List.getElem?_eq_some_iff.1 he
  rw [List.drop_eq_getElem_cons hk, he]
  rfl

theorem sumTx_le (E : List Ed) (h : ∀ e ∈ E, e.fits) : sumTx E ≤ E.length * 2000000 := by
  induction E with
  | nil => simp [sumTx]
  | cons e E ih =>
    have h1 := (h e (by simp)).2.2.2.2
    have h2 := ih (fun x hx => h x (by simp [hx]))
    simp only [sumTx, List.length_cons]
    omega

theorem lines_strs (s : ByteArray) (hs : s.size ≤ 9000000) (w : World) :
    Calls Tryd.prog 20 #[.string s] w fun e w' => ∃ a c, e = .returned (.slice a (linesOf s).length c) ∧ StrsAt w' (.slice a (linesOf s).length c) (linesOf s) ∧ Below w.heap.size w w' := by
  refine (lines_any s hs w).mono ?_
  rintro e w' ⟨v, rfl, hr, hb⟩
  have hst := strsAt_of_row hr
  obtain ⟨a, c, hv, _⟩ := id hst
  subst hv
  exact ⟨a, c, rfl, hst, hb⟩

theorem joinB_mem {X : List ByteArray} {x : ByteArray} (h : x ∈ X) : x.size ≤ (joinB X).length := by
  induction X with
  | nil => cases h
  | cons y X ih =>
    have e : (joinB (y :: X)).length = y.data.toList.length + (joinB X).length := by simp [joinB]
    have e2 : y.data.toList.length = y.size := Array.length_toList
    rcases List.mem_cons.1 h with rfl | h
    · omega
    · have := ih h; omega

theorem lines_size {s x : ByteArray} (h : x ∈ linesOf s) : x.size ≤ s.size := by
  have := joinB_mem h
  rw [linesOf_join, Array.length_toList] at this
  exact this

set_option maxHeartbeats 8000000 in
set_option maxRecDepth 100000 in
theorem apply_good (s : ByteArray) (hs : s.size ≤ 9000000) (u : Value) (E : List Ed) (w : World) (hE : EdsAt w u E) (hfit : fitF (linesOf s) E = true) :
    Calls Tryd.prog 18 #[.string s, u] w fun r w' => r = .returned (.tuple #[.string ⟨(applyGo (linesOf s) 0 E).toArray⟩, .int .i64 0]) ∧ Below w.heap.size w w' := by
  have hlen := applyGo_length (linesOf s) E (-1) 0 (by omega) hfit
  rw [List.drop_zero, linesOf_join] at hlen
  have hE0 := hE
  obtain ⟨a2, c2, rfl, hc2, hE2, hEf, hE⟩ := hE
  have hsum := sumTx_le E hEf
  have hlines := lines_strs s hs w
  have hls : ∀ x ∈ linesOf s, x.size ≤ 9000000 := fun x hx => Nat.le_trans (lines_size hx) hs
  have hLL : (linesOf s).length ≤ 9000000 := Nat.le_trans (linesF_length _ _) hs
  generalize linesOf s = X at hfit hlen hlines hls hLL ⊢
  have hbnd : (applyGo X 0 E).length ≤ 5000000000000 := by
    have : s.data.toList.length = s.size := Array.length_toList
    omega
  obtain ⟨m, hm⟩ : ∃ m, E.length = m := ⟨_, rfl⟩
  rw [hm] at hc2 hE2 ⊢
  have HE := Lib.hid hE; clear hE
  have HE0 := Lib.hid hE0; clear hE0
  have HM := Lib.hid hm
  have HEF := Lib.hid hEf; clear hEf
  have HFIT := Lib.hid hfit; clear hfit
  have HBND := Lib.hid hbnd
  have HLS := Lib.hid hls
  have HLINES := Lib.hid hlines; clear hlines hlen hbnd hls hsum hs
  go_enter Tryd.func18, Tryd.ntmps18
  go_wp2_with fail
  refine HLINES.out.mono ?_
  rintro e w1 ⟨a1, c1, rfl, hst1, hb1⟩
  go_wp2_with fail
  have hE1 := HE0.out.later hb1
  rw [hm] at hE1
  have hfa := fit_any _ X _ E w1 hst1 HLS.out hE1
  rw [HFIT.out] at hfa
  refine hfa.mono ?_
  rintro e w2 ⟨rfl, hb2⟩
  clear hfa hE1 hm
  have HST := Lib.hid (hst1.later hb2)
  have HB2 := Lib.hid (hb1.trans (hb2.mono hb1.size))
  clear hst1 hb1 hb2
  rcases HST.out with ⟨a', c', hv, hc1, hcm, hXr⟩
  simp only [Value.slice.injEq] at hv
  obtain ⟨rfl, -, rfl⟩ := hv
  obtain ⟨n, hn⟩ : ∃ n, X.length = n := ⟨_, rfl⟩
  rw [hn] at hc1 hLL ⊢
  have HN := Lib.hid hn
  clear hn
  rcases hXr with ⟨hX0, rfl, rfl⟩ | ⟨b1, o1, rfl, hlt1, hcs1⟩
  · obtain rfl : n = 0 := by rw [← HN.out, hX0]; rfl
    go_wp2
    go_loopw [8, 19] (fun av i wr => ∃ (k at_ : Nat) (last : Int) (l : List UInt8), k ≤ m ∧ -1 ≤ last ∧ av = .int .i64 at_ ∧ i = .int .i64 k ∧ fitGo X last (E.drop k) = true ∧ (at_ : Int) = max last 0 ∧ at_ ≤ 0 ∧
      Lib.IsBuilder 55 5 w2.heap.size w2.heap.size (Lib.byteCells l) wr ∧ Below w2.heap.size w2 wr ∧ l ++ applyGo X at_ (E.drop k) = applyGo X 0 E) (fun _ i _ => m - (intOf i).toNat)
    case atStart => exact ⟨0, 0, -1, [], Nat.zero_le _, by omega, rfl, rfl, HFIT.out, by omega, Nat.zero_le _, Lib.fresh_isBuilder 55 5 w2, (Below.refl _ _).alloc (Nat.le_refl _) _, rfl⟩
    case round =>
      obtain ⟨k, at_, last, l, hk, hl1, rfl, rfl, hft, hat, han, hib, hbl, hap⟩ := hrel
      by_cases hkm : k < m
      · obtain ⟨e, he⟩ : ∃ e, E[k]? = some e := ⟨E[k]'(by have := HM.out; omega), List.getElem?_eq_getElem _⟩
        obtain ⟨hbd, hft'⟩ := fitGo_drop he hft
        rw [applyGo_drop X at_ he] at hap
        obtain ⟨q1, q2, q3⟩ := badEd_false hbd
        have hfit := HEF.out e (List.mem_of_getElem? he)
        rcases HE.out with h | ⟨b2, o2, rfl, hlt2, hcs⟩
        · rw [h] at he; simp at he
        have hbw : Below w.heap.size w wr := HB2.out.trans (hbl.mono HB2.out.size)
        obtain ⟨c1', c2', c3'⟩ := hcs k e he
        have d1 := cell_later hbw c1'
        have d2 := cell_later hbw c2'
        have d3 := cell_later hbw c3'
        obtain ⟨f, t, x⟩ := e
        obtain ⟨hf1, hf2, ht1, ht2, hxs⟩ := hfit
        dsimp only at d1 d2 d3 hf1 hf2 ht1 ht2 hxs q1 q2 q3 hft' hap
        obtain ⟨f, rfl⟩ : ∃ f' : Nat, f = (f' : Int) := ⟨f.toNat, by omega⟩
        obtain ⟨t, rfl⟩ : ∃ t' : Nat, t = (t' : Int) := ⟨t.toNat, by omega⟩
        rw [HN.out] at q3
        simp only [Int.toNat_natCast] at hap
        have r1 : at_ ≤ f := by omega
        have r2 : f ≤ t := by omega
        have r3 : t ≤ 0 := by omega
        have hltr : b2 < wr.heap.size := Nat.lt_of_lt_of_le hlt2 hbw.size
        have hfc : f ≤ 0 := by omega
        obtain ⟨js, hjb⟩ : ∃ js : ByteArray, joinB ((X.drop at_).take (f - at_)) = js.data.toList := ⟨⟨(joinB ((X.drop at_).take (f - at_))).toArray⟩, by simp⟩
        rw [hjb] at hap
        have i1 : (0 : Int) ≤ (at_ : Int) := by omega
        have i2 : (at_ : Int) ≤ (f : Int) := by omega
        have i3 : (f : Int) ≤ (0 : Int) := by omega
        have hjl : js.size + x.size + l.length ≤ 5000000000000 := by
          have h1 := congrArg List.length hap
          simp only [List.length_append, Array.length_toList] at h1
          have h2 : x.data.size = x.size := rfl
          have h3 : js.data.size = js.size := rfl
          have := HBND.out
          omega
        obtain rfl : at_ = 0 := by omega
        obtain rfl : t = 0 := by omega
        obtain rfl : f = 0 := by omega
        obtain rfl : js = ⟨#[]⟩ := by
          have : js.data.toList = [] := by rw [← hjb, hX0]; simp [joinB]
          exact ByteArray.ext (Array.toList_inj.1 this)
        have hjoin : ∀ W, Calls Tryd.prog 32 #[.slice none 0 0, .string ⟨#[]⟩] W fun e w' => e = .returned (.string ⟨#[]⟩) ∧ Below W.heap.size W w' := fun W => (Tryd.strings_Join_none none 0 ⟨#[]⟩ W).mono (by rintro e w' ⟨rfl, rfl⟩; exact ⟨rfl, Below.refl _ _⟩)
        have hwrite : ∀ W cs, Below wr.heap.size wr W → W.heap[wr.heap.size]? = some (.cells cs 46 (0, 0)) → Calls Tryd.prog 19 #[.pointer (some ⟨w2.heap.size, 0, none⟩), .string (⟨#[]⟩ ++ x)] W fun e w' => (∃ v, e = .returned v) ∧
            Lib.IsBuilder 55 5 w2.heap.size w2.heap.size (Lib.byteCells (l ++ ((⟨#[]⟩ : ByteArray).data.toList ++ x.data.toList))) w' ∧ Below w2.heap.size w2 w' ∧ w'.heap[wr.heap.size]? = some (.cells cs 46 (0, 0)) := fun W cs hW hWb => by
          have hblt : w2.heap.size < wr.heap.size := by rcases hib with h | h <;> exact h.lt
          have hbW : Below w2.heap.size w2 W := hbl.trans (hW.mono hbl.size)
          refine (writeString_any _ _ _ _ W (isBuilder_below hib hW) ?_ hbW.size).mono ?_
          · rw [Lib.byteCells_length, ByteArray.size_append]
            omega
          · rintro e w' ⟨rfl, h1, h2, h3⟩
            refine ⟨⟨_, rfl⟩, .inr ?_, hbW.trans h2, h3 _ _ hWb (by simp; omega) (by rintro c fz ⟨⟩)⟩
            have e1 : Lib.byteCells (l ++ ((⟨#[]⟩ : ByteArray).data.toList ++ x.data.toList)) = Lib.byteCells l ++ Lib.strCells (⟨#[]⟩ ++ x) := by
              simp [Lib.byteCells, Lib.strCells]
            rw [e1]
            exact h1
        have hcat0 : ¬ 9223372036854775807 < x.size := by omega
        have hcat : ¬ 9223372036854775807 < (⟨#[]⟩ : ByteArray).size + x.size := by omega
        have hA : ∀ cs, Below wr.heap.size wr (wr.alloc (.cells cs 46)) := fun cs => (Below.refl _ _).alloc (Nat.le_refl _) _
        have HA := Lib.hid hA
        have HJOIN := Lib.hid hjoin
        have HWRITE := Lib.hid hwrite
        have HJL := Lib.hid hjl
        clear hA hjoin hwrite hjl hjb
        have HFT := Lib.hid hft'
        have HAP := Lib.hid hap
        have HIB := Lib.hid hib
        have HBL := Lib.hid hbl
        have HXS := Lib.hid hxs
        clear hft hft' hbd hap hib hbl hbw c1' c2' c3' hcs he hlt2 q1 q2 q3 hat hf1 hf2 ht1 ht2 hxs
        go_wp2
        have hnew : (wr.alloc (.cells #[.int .i64 0, .int .i64 0, .string x] 46)).heap[wr.heap.size]? = some (.cells #[.int .i64 0, .int .i64 0, .string x] 46 (0, 0)) := World.alloc_heap_new wr _
        have y0 : (wr.alloc (.cells #[.int .i64 0, .int .i64 0, .string x] 46)).drew.cell? ⟨wr.heap.size, 0, none⟩ = some (.int .i64 0) := by rw [World.cell?_drew, Lib.cell_of_heap hnew]; rfl
        have y1 : (wr.alloc (.cells #[.int .i64 0, .int .i64 0, .string x] 46)).drew.cell? ⟨wr.heap.size, 1, none⟩ = some (.int .i64 0) := by rw [World.cell?_drew, Lib.cell_of_heap hnew]; rfl
        have y2 : (wr.alloc (.cells #[.int .i64 0, .int .i64 0, .string x] 46)).drew.cell? ⟨wr.heap.size, 2, none⟩ = some (.string x) := by rw [World.cell?_drew, Lib.cell_of_heap hnew]; rfl
        have HNEW := Lib.hid hnew
        clear hnew
        go_region_held3 (fun w' : World => w'.cell? ⟨wr.heap.size, 0, none⟩ = some (.int .i64 0) ∧ w'.cell? ⟨wr.heap.size, 1, none⟩ = some (.int .i64 0) ∧ w'.cell? ⟨wr.heap.size, 2, none⟩ = some (.string x)) (first | exact ⟨‹_›, ‹_›, ‹_›⟩ | go_keep) (first
          | (go_at_call 32
             refine (HJOIN.out _).mono ?_
             rintro e5 w5 ⟨rfl, hb5⟩
             have z0 := hb5.cell (p := ⟨wr.heap.size, 0, none⟩) (by simp)
             have z1 := hb5.cell (p := ⟨wr.heap.size, 1, none⟩) (by simp)
             have z2 := hb5.cell (p := ⟨wr.heap.size, 2, none⟩) (by simp)
             rw [y0] at z0
             rw [y1] at z1
             rw [y2] at z2)
          | (go_at_call 19
             refine (HWRITE.out _ _ ((below_drew (HA.out _)).trans (hb5.mono (HA.out _).size)) ((hb5.block _ (by simp)).trans HNEW.out)).mono ?_
             rintro e6 w6 ⟨⟨v6, rfl⟩, hi6, hb6, hn6⟩
             have x0 : w6.cell? ⟨wr.heap.size, 0, none⟩ = some (.int .i64 0) := by rw [Lib.cell_of_heap hn6]; rfl
             have x1 : w6.cell? ⟨wr.heap.size, 1, none⟩ = some (.int .i64 0) := by rw [Lib.cell_of_heap hn6]; rfl
             have x2 : w6.cell? ⟨wr.heap.size, 2, none⟩ = some (.string x) := by rw [Lib.cell_of_heap hn6]; rfl
             have HI6 := Lib.hid hi6
             clear hi6 hn6)
          | fail)
        go_wp2
        go_roundw
        case rel => exact ⟨k + 1, 0, 0, _, by omega, by omega, rfl, by go_num, HFT.out, by omega, by omega, HI6.out, hb6, by rw [← HAP.out]; simp⟩
        case measure => simp [intOf]; omega
      · obtain rfl : k = m := by omega
        have hd : E.drop k = [] := List.drop_eq_nil_of_le (by have := HM.out; omega)
        rw [hd] at hap
        simp only [applyGo] at hap
        have hbw : Below w.heap.size w wr := HB2.out.trans (hbl.mono HB2.out.size)
        obtain ⟨js, hjb⟩ : ∃ js : ByteArray, joinB (X.drop at_) = js.data.toList := ⟨⟨(joinB (X.drop at_)).toArray⟩, by simp⟩
        rw [hjb] at hap
        have hjl : js.size + l.length ≤ 5000000000000 := by
          have h1 := congrArg List.length hap
          simp only [List.length_append, Array.length_toList] at h1
          have h3 : js.data.size = js.size := rfl
          have := HBND.out
          omega
        have i1 : (0 : Int) ≤ (at_ : Int) := by omega
        have i2 : (at_ : Int) ≤ (0 : Int) := by omega
        have i3 : (0 : Int) ≤ (0 : Int) := by omega
        obtain rfl : at_ = 0 := by omega
        obtain rfl : js = ⟨#[]⟩ := by
          have : js.data.toList = [] := by rw [← hjb, hX0]; simp [joinB]
          exact ByteArray.ext (Array.toList_inj.1 this)
        have hjoin : ∀ W, Calls Tryd.prog 32 #[.slice none 0 0, .string ⟨#[]⟩] W fun e w' => e = .returned (.string ⟨#[]⟩) ∧ Below W.heap.size W w' := fun W => (Tryd.strings_Join_none none 0 ⟨#[]⟩ W).mono (by rintro e w' ⟨rfl, rfl⟩; exact ⟨rfl, Below.refl _ _⟩)
        have hwrite : ∀ W, Below wr.heap.size wr W → Calls Tryd.prog 19 #[.pointer (some ⟨w2.heap.size, 0, none⟩), Value.string ⟨#[]⟩] W fun e w' => (∃ v, e = .returned v) ∧
            Lib.IsBuilder 55 5 w2.heap.size w2.heap.size (Lib.byteCells (l ++ (⟨#[]⟩ : ByteArray).data.toList)) w' ∧ Below w2.heap.size w2 w' := fun W hW => by
          have hbW : Below w2.heap.size w2 W := hbl.trans (hW.mono hbl.size)
          refine (writeString_any _ _ _ _ W (isBuilder_below hib hW) ?_ hbW.size).mono ?_
          · rw [Lib.byteCells_length]
            omega
          · rintro e w' ⟨rfl, h1, h2, h3⟩
            refine ⟨⟨_, rfl⟩, .inr ?_, hbW.trans h2⟩
            have e1 : Lib.byteCells (l ++ (⟨#[]⟩ : ByteArray).data.toList) = Lib.byteCells l ++ Lib.strCells ⟨#[]⟩ := by
              simp [Lib.byteCells, Lib.strCells]
            rw [e1]
            exact h1
        have HJOIN := Lib.hid hjoin
        have HWRITE := Lib.hid hwrite
        have HBL := Lib.hid hbl
        have HAP := Lib.hid hap
        clear hjoin hwrite hbl hap hjb hib hbw hft hjl hd hat
        go_wp2_with fail
        refine (HJOIN.out _).mono ?_
        rintro e5 w5 ⟨rfl, hb5⟩
        go_wp2_with fail
        refine (HWRITE.out _ hb5).mono ?_
        rintro e6 w6 ⟨⟨v6, rfl⟩, hi6, hb6⟩
        go_wp2_with fail
        refine (Tryd.Builder_String_any _ _ _ w6 hi6 hb6.size).mono ?_
        rintro e7 w7 ⟨rfl, hb7⟩
        go_wp2
        go_ret2
        exact ⟨by have h := HAP.out; rw [List.append_nil] at h; rw [← h]; rfl, HB2.out.trans ((hb6.trans hb7).mono HB2.out.size)⟩

  have HCS1 := Lib.hid hcs1
  clear hcs1
  go_wp2
  go_loopw [8, 19] (fun av i wr => ∃ (k at_ : Nat) (last : Int) (l : List UInt8), k ≤ m ∧ -1 ≤ last ∧ av = .int .i64 at_ ∧ i = .int .i64 k ∧ fitGo X last (E.drop k) = true ∧ (at_ : Int) = max last 0 ∧ at_ ≤ n ∧
    Lib.IsBuilder 55 5 w2.heap.size w2.heap.size (Lib.byteCells l) wr ∧ Below w2.heap.size w2 wr ∧ l ++ applyGo X at_ (E.drop k) = applyGo X 0 E) (fun _ i _ => m - (intOf i).toNat)
  case atStart => exact ⟨0, 0, -1, [], Nat.zero_le _, by omega, rfl, rfl, HFIT.out, by omega, Nat.zero_le _, Lib.fresh_isBuilder 55 5 w2, (Below.refl _ _).alloc (Nat.le_refl _) _, rfl⟩
  case round =>
    obtain ⟨k, at_, last, l, hk, hl1, rfl, rfl, hft, hat, han, hib, hbl, hap⟩ := hrel
    by_cases hkm : k < m
    · obtain ⟨e, he⟩ : ∃ e, E[k]? = some e := ⟨E[k]'(by have := HM.out; omega), List.getElem?_eq_getElem _⟩
      obtain ⟨hbd, hft'⟩ := fitGo_drop he hft
      rw [applyGo_drop X at_ he] at hap
      obtain ⟨q1, q2, q3⟩ := badEd_false hbd
      have hfit := HEF.out e (List.mem_of_getElem? he)
      rcases HE.out with h | ⟨b2, o2, rfl, hlt2, hcs⟩
      · rw [h] at he; simp at he
      have hbw : Below w.heap.size w wr := HB2.out.trans (hbl.mono HB2.out.size)
      obtain ⟨c1', c2', c3'⟩ := hcs k e he
      have d1 := cell_later hbw c1'
      have d2 := cell_later hbw c2'
      have d3 := cell_later hbw c3'
      obtain ⟨f, t, x⟩ := e
      obtain ⟨hf1, hf2, ht1, ht2, hxs⟩ := hfit
      dsimp only at d1 d2 d3 hf1 hf2 ht1 ht2 hxs q1 q2 q3 hft' hap
      obtain ⟨f, rfl⟩ : ∃ f' : Nat, f = (f' : Int) := ⟨f.toNat, by omega⟩
      obtain ⟨t, rfl⟩ : ∃ t' : Nat, t = (t' : Int) := ⟨t.toNat, by omega⟩
      rw [HN.out] at q3
      simp only [Int.toNat_natCast] at hap
      have r1 : at_ ≤ f := by omega
      have r2 : f ≤ t := by omega
      have r3 : t ≤ n := by omega
      have hltr : b2 < wr.heap.size := Nat.lt_of_lt_of_le hlt2 hbw.size
      have hfc : f ≤ c1 := by omega
      obtain ⟨js, hjb⟩ : ∃ js : ByteArray, joinB ((X.drop at_).take (f - at_)) = js.data.toList := ⟨⟨(joinB ((X.drop at_).take (f - at_))).toArray⟩, by simp⟩
      rw [hjb] at hap
      have i1 : (0 : Int) ≤ (at_ : Int) := by omega
      have i2 : (at_ : Int) ≤ (f : Int) := by omega
      have i3 : (f : Int) ≤ (c1 : Int) := by omega
      have hjl : js.size + x.size + l.length ≤ 5000000000000 := by
        have h1 := congrArg List.length hap
        simp only [List.length_append, Array.length_toList] at h1
        have h2 : x.data.size = x.size := rfl
        have h3 : js.data.size = js.size := rfl
        have := HBND.out
        omega
      have hjoin : ∀ W o' nn cc, Below wr.heap.size wr W → (c1 ≠ at_ → o' = o1 + at_) → nn = f - at_ → cc = c1 - at_ → Calls Tryd.prog 32 #[.slice (some ⟨b1, o', none⟩) nn cc, .string ⟨#[]⟩] W fun e w' => e = .returned (.string js) ∧ Below W.heap.size W w' := fun W o' nn cc hW ho hnn hcc => by
        subst hnn; subst hcc
        have hxl : ((X.drop at_).take (f - at_)).length = f - at_ := by
          have := HN.out
          rw [List.length_take, List.length_drop]
          omega
        have hbW : Below w2.heap.size w2 W := hbl.trans (hW.mono hbl.size)
        have ejs : js = ⟨(joinB ((X.drop at_).take (f - at_))).toArray⟩ := by rw [hjb]
        have hjl2 : (joinB ((X.drop at_).take (f - at_))).length = js.size := by rw [hjb]; exact Array.length_toList
        rw [ejs]
        refine join_any _ _ _ ((X.drop at_).take (f - at_)) W ⟨_, _, by rw [hxl], by rw [hxl]; omega, by omega, .inr ⟨b1, o', rfl, Nat.lt_of_lt_of_le hlt1 hbW.size, fun j y hy => ?_⟩⟩ (by omega) (by rw [hxl]; omega)
        rw [List.getElem?_take] at hy
        split at hy
        · rw [List.getElem?_drop] at hy
          have := cell_later hbW (HCS1.out _ y hy)
          rw [ho (by omega)]
          rwa [Nat.add_assoc]
        · cases hy
      have hwrite : ∀ W cs, Below wr.heap.size wr W → W.heap[wr.heap.size]? = some (.cells cs 46 (0, 0)) → Calls Tryd.prog 19 #[.pointer (some ⟨w2.heap.size, 0, none⟩), .string (js ++ x)] W fun e w' => (∃ v, e = .returned v) ∧
          Lib.IsBuilder 55 5 w2.heap.size w2.heap.size (Lib.byteCells (l ++ (js.data.toList ++ x.data.toList))) w' ∧ Below w2.heap.size w2 w' ∧ w'.heap[wr.heap.size]? = some (.cells cs 46 (0, 0)) := fun W cs hW hWb => by
        have hblt : w2.heap.size < wr.heap.size := by rcases hib with h | h <;> exact h.lt
        have hbW : Below w2.heap.size w2 W := hbl.trans (hW.mono hbl.size)
        refine (writeString_any _ _ _ _ W (isBuilder_below hib hW) ?_ hbW.size).mono ?_
        · rw [Lib.byteCells_length, ByteArray.size_append]
          omega
        · rintro e w' ⟨rfl, h1, h2, h3⟩
          refine ⟨⟨_, rfl⟩, .inr ?_, hbW.trans h2, h3 _ _ hWb (by simp; omega) (by rintro c fz ⟨⟩)⟩
          have e1 : Lib.byteCells (l ++ (js.data.toList ++ x.data.toList)) = Lib.byteCells l ++ Lib.strCells (js ++ x) := by
            simp [Lib.byteCells, Lib.strCells]
          rw [e1]
          exact h1
      have hcat : ¬ 9223372036854775807 < js.size + x.size := by omega
      have hA : ∀ cs, Below wr.heap.size wr (wr.alloc (.cells cs 46)) := fun cs => (Below.refl _ _).alloc (Nat.le_refl _) _
      have HA := Lib.hid hA
      have HJOIN := Lib.hid hjoin
      have HWRITE := Lib.hid hwrite
      have HJL := Lib.hid hjl
      clear hA hjoin hwrite hjl hjb
      have HFT := Lib.hid hft'
      have HAP := Lib.hid hap
      have HIB := Lib.hid hib
      have HBL := Lib.hid hbl
      have HXS := Lib.hid hxs
      clear hft hft' hbd hap hib hbl hbw c1' c2' c3' hcs he hlt2 q1 q2 q3 hat hf1 hf2 ht1 ht2 hxs
      go_wp2
      have hnew : (wr.alloc (.cells #[.int .i64 f, .int .i64 t, .string x] 46)).heap[wr.heap.size]? = some (.cells #[.int .i64 f, .int .i64 t, .string x] 46 (0, 0)) := World.alloc_heap_new wr _
      have y0 : (wr.alloc (.cells #[.int .i64 f, .int .i64 t, .string x] 46)).drew.cell? ⟨wr.heap.size, 0, none⟩ = some (.int .i64 f) := by rw [World.cell?_drew, Lib.cell_of_heap hnew]; rfl
      have y1 : (wr.alloc (.cells #[.int .i64 f, .int .i64 t, .string x] 46)).drew.cell? ⟨wr.heap.size, 1, none⟩ = some (.int .i64 t) := by rw [World.cell?_drew, Lib.cell_of_heap hnew]; rfl
      have y2 : (wr.alloc (.cells #[.int .i64 f, .int .i64 t, .string x] 46)).drew.cell? ⟨wr.heap.size, 2, none⟩ = some (.string x) := by rw [World.cell?_drew, Lib.cell_of_heap hnew]; rfl
      have HNEW := Lib.hid hnew
      clear hnew
      by_cases hca : c1 = at_
      · obtain rfl : f = at_ := by omega
        subst hca
        go_region_held3 (fun w' : World => w'.cell? ⟨wr.heap.size, 0, none⟩ = some (.int .i64 c1) ∧ w'.cell? ⟨wr.heap.size, 1, none⟩ = some (.int .i64 t) ∧ w'.cell? ⟨wr.heap.size, 2, none⟩ = some (.string x)) (first | exact ⟨‹_›, ‹_›, ‹_›⟩ | go_keep) (first
          | (go_at_call 32
             refine (HJOIN.out _ _ _ _ (below_drew (HA.out _)) (by omega) (by omega) (by omega)).mono ?_
             rintro e5 w5 ⟨rfl, hb5⟩
             have z0 := hb5.cell (p := ⟨wr.heap.size, 0, none⟩) (by simp)
             have z1 := hb5.cell (p := ⟨wr.heap.size, 1, none⟩) (by simp)
             have z2 := hb5.cell (p := ⟨wr.heap.size, 2, none⟩) (by simp)
             rw [y0] at z0
             rw [y1] at z1
             rw [y2] at z2)
          | (go_at_call 19
             refine (HWRITE.out _ _ ((below_drew (HA.out _)).trans (hb5.mono (HA.out _).size)) ((hb5.block _ (by simp)).trans HNEW.out)).mono ?_
             rintro e6 w6 ⟨⟨v6, rfl⟩, hi6, hb6, hn6⟩
             have x0 : w6.cell? ⟨wr.heap.size, 0, none⟩ = some (.int .i64 c1) := by rw [Lib.cell_of_heap hn6]; rfl
             have x1 : w6.cell? ⟨wr.heap.size, 1, none⟩ = some (.int .i64 t) := by rw [Lib.cell_of_heap hn6]; rfl
             have x2 : w6.cell? ⟨wr.heap.size, 2, none⟩ = some (.string x) := by rw [Lib.cell_of_heap hn6]; rfl
             have HI6 := Lib.hid hi6
             clear hi6 hn6)
          | fail)
        go_wp2
        go_roundw
        case rel => exact ⟨k + 1, t, t, _, by omega, by omega, rfl, by go_num, HFT.out, by omega, by omega, HI6.out, hb6, by rw [← HAP.out]; simp⟩
        case measure => simp [intOf]; omega
      · go_region_held3 (fun w' : World => w'.cell? ⟨wr.heap.size, 0, none⟩ = some (.int .i64 f) ∧ w'.cell? ⟨wr.heap.size, 1, none⟩ = some (.int .i64 t) ∧ w'.cell? ⟨wr.heap.size, 2, none⟩ = some (.string x)) (first | exact ⟨‹_›, ‹_›, ‹_›⟩ | go_keep) (first
          | (go_at_call 32
             refine (HJOIN.out _ _ _ _ (below_drew (HA.out _)) (by omega) (by omega) (by omega)).mono ?_
             rintro e5 w5 ⟨rfl, hb5⟩
             have z0 := hb5.cell (p := ⟨wr.heap.size, 0, none⟩) (by simp)
             have z1 := hb5.cell (p := ⟨wr.heap.size, 1, none⟩) (by simp)
             have z2 := hb5.cell (p := ⟨wr.heap.size, 2, none⟩) (by simp)
             rw [y0] at z0
             rw [y1] at z1
             rw [y2] at z2)
          | (go_at_call 19
             refine (HWRITE.out _ _ ((below_drew (HA.out _)).trans (hb5.mono (HA.out _).size)) ((hb5.block _ (by simp)).trans HNEW.out)).mono ?_
             rintro e6 w6 ⟨⟨v6, rfl⟩, hi6, hb6, hn6⟩
             have x0 : w6.cell? ⟨wr.heap.size, 0, none⟩ = some (.int .i64 f) := by rw [Lib.cell_of_heap hn6]; rfl
             have x1 : w6.cell? ⟨wr.heap.size, 1, none⟩ = some (.int .i64 t) := by rw [Lib.cell_of_heap hn6]; rfl
             have x2 : w6.cell? ⟨wr.heap.size, 2, none⟩ = some (.string x) := by rw [Lib.cell_of_heap hn6]; rfl
             have HI6 := Lib.hid hi6
             clear hi6 hn6)
          | fail)
        go_wp2
        go_roundw
        case rel => exact ⟨k + 1, t, t, _, by omega, by omega, rfl, by go_num, HFT.out, by omega, by omega, HI6.out, hb6, by rw [← HAP.out]; simp⟩
        case measure => simp [intOf]; omega
    · obtain rfl : k = m := by omega
      have hd : E.drop k = [] := List.drop_eq_nil_of_le (by have := HM.out; omega)
      rw [hd] at hap
      simp only [applyGo] at hap
      have hbw : Below w.heap.size w wr := HB2.out.trans (hbl.mono HB2.out.size)
      obtain ⟨js, hjb⟩ : ∃ js : ByteArray, joinB (X.drop at_) = js.data.toList := ⟨⟨(joinB (X.drop at_)).toArray⟩, by simp⟩
      rw [hjb] at hap
      have hjl : js.size + l.length ≤ 5000000000000 := by
        have h1 := congrArg List.length hap
        simp only [List.length_append, Array.length_toList] at h1
        have h3 : js.data.size = js.size := rfl
        have := HBND.out
        omega
      have i1 : (0 : Int) ≤ (at_ : Int) := by omega
      have i2 : (at_ : Int) ≤ (n : Int) := by omega
      have i3 : (n : Int) ≤ (c1 : Int) := by omega
      have hjoin : ∀ o' nn cc, (c1 ≠ at_ → o' = o1 + at_) → nn = n - at_ → cc = c1 - at_ → Calls Tryd.prog 32 #[.slice (some ⟨b1, o', none⟩) nn cc, .string ⟨#[]⟩] wr fun e w' => e = .returned (.string js) ∧ Below wr.heap.size wr w' := fun o' nn cc ho hnn hcc => by
        subst hnn; subst hcc
        have hxl : (X.drop at_).length = n - at_ := by
          have := HN.out
          rw [List.length_drop]
          omega
        have ejs : js = ⟨(joinB (X.drop at_)).toArray⟩ := by rw [hjb]
        have hjl2 : (joinB (X.drop at_)).length = js.size := by rw [hjb]; exact Array.length_toList
        rw [ejs]
        refine join_any _ _ _ (X.drop at_) wr ⟨_, _, by rw [hxl], by rw [hxl]; omega, by omega, .inr ⟨b1, o', rfl, Nat.lt_of_lt_of_le hlt1 hbl.size, fun j y hy => ?_⟩⟩ (by omega) (by rw [hxl]; omega)
        have hj : j < (X.drop at_).length := (List.getElem?_eq_some_iff.1 hy).1
        rw [List.getElem?_drop] at hy
        have := cell_later hbl (HCS1.out _ y hy)
        rw [ho (by omega)]
        rwa [Nat.add_assoc]
      have hwrite : ∀ W, Below wr.heap.size wr W → Calls Tryd.prog 19 #[.pointer (some ⟨w2.heap.size, 0, none⟩), .string js] W fun e w' => (∃ v, e = .returned v) ∧
          Lib.IsBuilder 55 5 w2.heap.size w2.heap.size (Lib.byteCells (l ++ js.data.toList)) w' ∧ Below w2.heap.size w2 w' := fun W hW => by
        have hbW : Below w2.heap.size w2 W := hbl.trans (hW.mono hbl.size)
        refine (writeString_any _ _ _ _ W (isBuilder_below hib hW) ?_ hbW.size).mono ?_
        · rw [Lib.byteCells_length]
          omega
        · rintro e w' ⟨rfl, h1, h2, h3⟩
          refine ⟨⟨_, rfl⟩, .inr ?_, hbW.trans h2⟩
          have e1 : Lib.byteCells (l ++ js.data.toList) = Lib.byteCells l ++ Lib.strCells js := by
            simp [Lib.byteCells, Lib.strCells]
          rw [e1]
          exact h1
      have HJOIN := Lib.hid hjoin
      have HWRITE := Lib.hid hwrite
      have HBL := Lib.hid hbl
      have HAP := Lib.hid hap
      clear hjoin hwrite hbl hap hjb hib hbw hft hjl hd hat
      by_cases hca : c1 = at_
      · obtain rfl : n = at_ := by omega
        subst hca
        go_wp2_with fail
        refine (HJOIN.out _ _ _ (by omega) (by omega) (by omega)).mono ?_
        rintro e5 w5 ⟨rfl, hb5⟩
        go_wp2_with fail
        refine (HWRITE.out _ hb5).mono ?_
        rintro e6 w6 ⟨⟨v6, rfl⟩, hi6, hb6⟩
        go_wp2_with fail
        refine (Tryd.Builder_String_any _ _ _ w6 hi6 hb6.size).mono ?_
        rintro e7 w7 ⟨rfl, hb7⟩
        go_wp2
        go_ret2
        exact ⟨by rw [← HAP.out]; rfl, HB2.out.trans ((hb6.trans hb7).mono HB2.out.size)⟩
      · go_wp2_with fail
        refine (HJOIN.out _ _ _ (by omega) (by omega) (by omega)).mono ?_
        rintro e5 w5 ⟨rfl, hb5⟩
        go_wp2_with fail
        refine (HWRITE.out _ hb5).mono ?_
        rintro e6 w6 ⟨⟨v6, rfl⟩, hi6, hb6⟩
        go_wp2_with fail
        refine (Tryd.Builder_String_any _ _ _ w6 hi6 hb6.size).mono ?_
        rintro e7 w7 ⟨rfl, hb7⟩
        go_wp2
        go_ret2
        exact ⟨by rw [← HAP.out]; rfl, HB2.out.trans ((hb6.trans hb7).mono HB2.out.size)⟩

set_option maxHeartbeats 1000000 in
theorem apply_bad (s : ByteArray) (hs : s.size ≤ 9000000) (u : Value) (E : List Ed) (w : World) (hE : EdsAt w u E) (hfit : fitF (linesOf s) E = false) :
    Calls Tryd.prog 18 #[.string s, u] w fun r w' => r = .returned (.tuple #[.string ⟨#[]⟩, .int .i64 180]) ∧ Below w.heap.size w w' := by
  have hlines := lines_strs s hs w
  have hls : ∀ x ∈ linesOf s, x.size ≤ 9000000 := fun x hx => Nat.le_trans (lines_size hx) hs
  generalize linesOf s = X at hfit hlines hls ⊢
  have HLS := Lib.hid hls
  have HE0 := Lib.hid hE
  have HFIT := Lib.hid hfit
  have HLINES := Lib.hid hlines
  obtain ⟨a2, c2, rfl, _⟩ := hE
  clear hlines hls hfit hs
  go_enter Tryd.func18, Tryd.ntmps18
  go_wp2_with fail
  refine HLINES.out.mono ?_
  rintro e w1 ⟨a1, c1, rfl, hst1, hb1⟩
  go_wp2_with fail
  have hfa := fit_any _ X _ E w1 hst1 HLS.out (HE0.out.later hb1)
  rw [HFIT.out] at hfa
  refine hfa.mono ?_
  rintro e w2 ⟨rfl, hb2⟩
  clear hfa hst1
  have hb := hb1.trans (hb2.mono hb1.size)
  go_wp2
  go_ret2
  exact ⟨rfl, hb⟩

theorem apply_any (s : ByteArray) (hs : s.size ≤ 9000000) (u : Value) (E : List Ed) (w : World) (hE : EdsAt w u E) :
    Calls Tryd.prog 18 #[.string s, u] w fun r w' => r = .returned (.tuple #[.string (applyF s E).1, .int .i64 (applyF s E).2]) ∧ Below w.heap.size w w' := by
  unfold applyF
  cases h : fitF (linesOf s) E with
  | true => exact apply_good s hs u E w hE h
  | false => exact apply_bad s hs u E w hE h

theorem applyF_size (s : ByteArray) (E : List Ed) : (applyF s E).1.size ≤ s.size + sumTx E := by
  unfold applyF
  split
  · rename_i h
    have := applyGo_length (linesOf s) E (-1) 0 (by omega) h
    rw [List.drop_zero, linesOf_join] at this
    have e : s.data.toList.length = s.size := Array.length_toList
    show (applyGo (linesOf s) 0 E).toArray.size ≤ _
    rw [List.size_toArray]
    omega
  · exact Nat.zero_le _

end Go.Proofs.YtbodemkmjemdjaaDoor
