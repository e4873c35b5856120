/-
  What told.Apply answers: the files with the changes made.
-/
import Derived.Test.YtbodemkmjemdjaaDoorFiles
import Derived.Test.YtbodemkmjemdjaaDoorGreat
namespace Go.Proofs.YtbodemkmjemdjaaDoor
open Go.RowKit

def appAll : List Fil → List Chg → List Fil × Int
  | M, [] => (M, 0)
  | M, c :: C => match findF M c.name with
    | none => ([], 220)
    | some j => match M[j]? with
      | none => ([], 220)
      | some f => if (applyF f.text c.eds).2 = 0 then appAll (M.set j ⟨f.name, (applyF f.text c.eds).1⟩) C else ([], (applyF f.text c.eds).2)
def toldF (L : List Fil) (C : List Chg) : List Fil × Int :=
  if validF C = false then ([], 2) else if C.all (fun c => (findF L c.name).isSome) = false then ([], 220) else appAll L C

def sumT : List Chg → Nat
  | [] => 0
  | c :: C => sumTx c.eds + sumT C

theorem findF_names {M L : List Fil} (h : M.map (·.name) = L.map (·.name)) (q : ByteArray) : findF M q = findF L q := by
  have key : ∀ K : List Fil, findF K q = (K.map (·.name)).findIdx? (fun s => s.toList == q.toList) := fun K => by
    unfold findF
    rw [List.findIdx?_map]
    rfl
  rw [key, key, h]
theorem names_set {M : List Fil} {j : Nat} {f : Fil} (h : M[j]? = some f) (t : ByteArray) : (M.set j ⟨f.name, t⟩).map (·.name) = M.map (·.name) := by
  rw [List.map_set]
  apply List.ext_getElem?
  intro i
  rw [List.getElem?_set]
  split
  · rename_i e
    subst e
    split
    · simp [h]
    · rename_i hl
      rw [List.getElem?_eq_none (by omega)]
  · rfl
theorem findF_lt {L : List Fil} {q : ByteArray} {j : Nat} (h : findF L q = some j) : j < L.length := by
  unfold findF at h
  obtain ⟨h1, _⟩ := List.findIdx?_eq_some_iff_getElem.1 h
  exact h1

theorem own_below {W W' : World} {base e size n : Nat} {v : Value} {xs : List Value} (h : W.ownsRow base e size v n xs) (hb : Below W.heap.size W W') : W'.ownsRow base e size v n xs :=
  h.kept (row := none) ⟨hb.os, hb.tape, hb.output, hb.size, fun k hk _ => hb.block k hk⟩ (by by_cases e : v.ownBlock = none <;> simp [e])
theorem own_alloc {W : World} {base e size n : Nat} {v : Value} {xs : List Value} (h : W.ownsRow base e size v n xs) (o : Obj) : (W.alloc o).ownsRow base e size v n xs := own_below h ((Below.refl _ W).alloc (Nat.le_refl _) o)
theorem own_cell {W : World} {base e size n g c : Nat} {xs : List Value} (h : W.ownsRow base e size (.slice (some ⟨g, 0, none⟩) n c) n xs) {i : Nat} {x : Value} (hx : xs[i]? = some x) : W.cell? ⟨g, i, none⟩ = some x := by
  have := h.cells (g := g) rfl i x hx
  have e2 : (⟨g, 0, none⟩ : Addr).add i = ⟨g, i, none⟩ := by unfold Addr.add; split <;> simp_all
  rwa [e2] at this
theorem own_base {W : World} {base e size n g c : Nat} {xs : List Value} (h : W.ownsRow base e size (.slice (some ⟨g, 0, none⟩) n c) n xs) : base ≤ g := by
  rcases h.2 with ⟨h, _⟩ | ⟨g', cap, cur, h, hb, _⟩
  · cases h
  · simp only [Value.slice.injEq, Option.some.injEq, Addr.mk.injEq, and_true] at h
    rw [h.1]; exact hb
theorem own_apart {W : World} {b1 b2 e1 e2 s1 s2 n1 n2 g1 g2 c1 c2 : Nat} {xs ys : List Value} (h1 : W.ownsRow b1 e1 s1 (.slice (some ⟨g1, 0, none⟩) n1 c1) n1 xs) (h2 : W.ownsRow b2 e2 s2 (.slice (some ⟨g2, 0, none⟩) n2 c2) n2 ys) (hne : e1 ≠ e2) : g1 ≠ g2 := by
  rcases h1.2 with ⟨h, _⟩ | ⟨g, cap, cur, h, _, hg, _⟩
  · cases h
  · rcases h2.2 with ⟨h', _⟩ | ⟨g', cap', cur', h', _, hg', _⟩
    · cases h'
    · simp only [Value.slice.injEq, Option.some.injEq, Addr.mk.injEq, and_true] at h h'
      obtain ⟨rfl, -⟩ := h
      obtain ⟨rfl, -⟩ := h'
      rintro rfl
      rw [hg] at hg'
      simp at hg'
      exact hne hg'.2

theorem filsAt_of_row {w : World} {base n : Nat} {v : Value} {L : List Fil} (h : w.ownsRow base 26 2 v n (filCells L)) (hn : L.length = n) (hl : n ≤ 2000000) (hs : ∀ x ∈ L, x.name.size ≤ 2000000 ∧ x.text.size ≤ 2000000) : FilsAt w v L := by
  subst hn
  rcases h.2 with ⟨rfl, h1⟩ | ⟨g, cap, cur, rfl, hb, hg, hn, hc, hsz, ht⟩
  · exact ⟨none, 0, by rw [h1], by omega, hl, hs, .inl (List.eq_nil_of_length_eq_zero h1)⟩
  · refine ⟨_, cap, rfl, hn, hl, hs, .inr ⟨g, 0, rfl, (Array.getElem?_eq_some_iff.1 hg).1, fun k f hf => ?_⟩⟩
    obtain ⟨q1, q2⟩ := filCells_at hf
    rw [Nat.zero_add]
    exact ⟨own_cell h q1, own_cell h q2⟩

theorem filCells_set {M : List Fil} {j : Nat} {f : Fil} (h : M[j]? = some f) (t : ByteArray) : (filCells M).set (j * 2 + 1) (.string t) = filCells (M.set j ⟨f.name, t⟩) := by
  induction M generalizing j with
  | nil => simp at h
  | cons g M ih =>
    cases j with
    | zero => simp at h; subst h; rfl
    | succ j =>
      have := ih (j := j) (by simpa using h)
      rw [show (j + 1) * 2 + 1 = j * 2 + 1 + 1 + 1 by omega]
      simp only [filCells, List.set_cons_succ, this]

theorem info3 : (Tryd.prog.info? 3).map (fun i => (i.zero, i.size, i.bytes)) = some (some (.int .i64 0), 1, 8) := by kernel_rfl

set_option maxHeartbeats 1000000 in
theorem told_bad (v : Value) (L : List Fil) (u : Value) (C : List Chg) (ml : Int) (w : World) (hL : FilsAt w v L) (hC : ChgsAt w u C) (hm : w.cell? ⟨1, 0, none⟩ = some (.int .i64 ml)) (hval : validF C = false) :
    Calls Tryd.prog 8 #[v, u] w fun r w' => r = .returned (.tuple #[.slice none 0 0, .int .i64 2]) ∧ Below w.heap.size w w' := by
  have hva := valid_any u C ml w hC hm
  rw [hval] at hva
  obtain ⟨a, c, rfl, _⟩ := hC
  obtain ⟨a2, c2, rfl, _⟩ := hL
  have HVA := Lib.hid hva
  clear hva hm hval
  go_enter Tryd.func8, Tryd.ntmps8
  go_wp2_with fail
  refine HVA.out.mono ?_
  rintro e w1 ⟨rfl, hb1⟩
  go_wp2
  go_ret2
  exact ⟨rfl, hb1⟩

set_option maxHeartbeats 8000000 in
set_option maxRecDepth 100000 in
theorem told_main (v : Value) (L : List Fil) (u : Value) (C : List Chg) (ml : Int) (w : World) (hL : FilsAt w v L) (hC : ChgsAt w u C) (hm : w.cell? ⟨1, 0, none⟩ = some (.int .i64 ml)) (hval : validF C = true) (hB : ∀ f ∈ L, f.text.size + sumT C ≤ 2000000) :
    Calls Tryd.prog 8 #[v, u] w fun r w' => ∃ y, r = .returned (.tuple #[y, .int .i64 (toldF L C).2]) ∧ ((toldF L C).2 = 0 → FilsAt w' y (toldF L C).1) ∧ Below w.heap.size w w' := by
  obtain ⟨i0, hi, hz0, hz1, hz2⟩ := info_parts info3
  have hva := valid_any u C ml w hC hm
  rw [hval] at hva
  have htf : toldF L C = if C.all (fun c => (findF L c.name).isSome) = false then ([], 220) else appAll L C := by unfold toldF; rw [hval]; rfl
  have hLL := hL
  obtain ⟨a0, c0, rfl, hc0, hn2, hLs, _⟩ := hL
  obtain ⟨n, hn⟩ : ∃ n, L.length = n := ⟨_, rfl⟩
  obtain ⟨a, c, rfl, hc, hcm, hC2, hCn, hC⟩ := hC
  obtain ⟨m, hm2⟩ : ∃ m, C.length = m := ⟨_, rfl⟩
  rw [hm2] at hc hC2 hva ⊢
  have HC := Lib.hid hC; clear hC
  have HM := Lib.hid hm2; clear hm2
  have HCN := Lib.hid hCn; clear hCn
  have HVA := Lib.hid hva; clear hva
  have HLL := Lib.hid hLL; clear hLL
  have HLS := Lib.hid hLs; clear hLs
  have HN := Lib.hid hn
  have HTF := Lib.hid htf
  have HB := Lib.hid hB
  rw [hn] at hc0 hn2 ⊢
  clear hm hval htf hB hn
  go_enter Tryd.func8, Tryd.ntmps8
  go_wp2_with fail
  refine HVA.out.mono ?_
  rintro e w1 ⟨rfl, hb1⟩
  go_wp2_with fail
  have hcl := clone_any _ L w1 (HLL.out.later hb1)
  rw [HN.out] at hcl
  refine hcl.mono ?_
  rintro e w2 ⟨u, rfl, hu, hb2⟩
  clear hcl
  obtain ⟨ua, uc, rfl⟩ : ∃ a c, u = .slice a n c := by
    rcases hu.2 with ⟨h, h1⟩ | ⟨g, cap, cur, h, _⟩
    · exact ⟨_, _, h.trans (by rw [h1])⟩
    · exact ⟨_, _, h⟩
  have hb12 := hb1.trans (hb2.mono hb1.size)
  have HB2 := Lib.hid hb12
  have HB1 := Lib.hid hb1
  have HU := Lib.hid hu
  have h12 : w1.heap.size ≤ w2.heap.size := hb2.size
  clear hb1 hb2 hb12 hu
  go_wp2_with (at_make; refine wpList_make_full _ rfl _ _ 48 rfl w2.heap.size 3 i0 (.int .i64 0) 1 Tryd.underlying48 hi hz0 hz1 .i64 .i64 (m : Int) (m : Int) m rfl rfl rfl rfl (by rw [hz2]; omega) (by unfold maxLen; omega) (Nat.le_refl _) ?_; intro w3 hA3 hg3)
  have HU3 := Lib.hid (HU.out.kept hg3 (by by_cases e : (Value.slice ua n uc).ownBlock = none <;> simp [e]))
  have HA3 := Lib.hid hA3
  have HG3 := Lib.hid (show Below w.heap.size w w3 from HB2.out.trans ⟨hg3.os, hg3.tape, hg3.output, hg3.size, fun k hk => hg3.block k (Nat.lt_of_lt_of_le hk HB2.out.size) (by simp)⟩)
  clear hA3 hg3 HU
  go_wp2
  go_loopw [24] (fun i wr => ∃ (k : Nat) (xs : List Value), k ≤ m ∧ i = .int .i64 k ∧ Below w.heap.size w wr ∧ wr.ownsRow w2.heap.size 3 1 (.slice (some ⟨w2.heap.size, 0, none⟩) m m) m xs ∧ wr.ownsRow w1.heap.size 26 2 (.slice ua n uc) n (filCells L) ∧
    (∀ i x, C[i]? = some x → i < k → ∃ j : Nat, findF L x.name = some j ∧ xs[i]? = some (.int .i64 (j : Int)))) (fun i _ => m - (intOf i).toNat)
  case atStart => exact ⟨0, _, Nat.zero_le _, rfl, HG3.out, HA3.out, HU3.out, fun i x _ h => by omega⟩
  case round =>
    obtain ⟨k, xs, hk, rfl, hb, hA, hu, hxs⟩ := hrel
    by_cases hkm : k < m
    · obtain ⟨x, hx⟩ : ∃ x, C[k]? = some x := ⟨C[k]'(by have := HM.out; omega), List.getElem?_eq_getElem _⟩
      rcases HC.out with h | ⟨b, o, rfl, hlt, hcs⟩
      · rw [h] at hx; simp at hx
      obtain ⟨d1, ev, d2, hev⟩ := hcs k x hx
      have c1 := cell_later hb d1
      have c2 := cell_later hb d2
      obtain ⟨nm, hnm⟩ : ∃ nm, x.name = nm := ⟨_, rfl⟩
      rw [hnm] at c1
      obtain ⟨a2, cap2, rfl, _⟩ := hev
      obtain ⟨m2, hm2⟩ : ∃ m2, x.eds.length = m2 := ⟨_, rfl⟩
      rw [hm2] at c2
      have hltr : b < wr.heap.size := Nat.lt_of_lt_of_le hlt hb.size
      have hxl : xs.length = m := by have := hA.1; omega
      obtain ⟨x0, hx0⟩ : ∃ x0, xs[k]? = some x0 := ⟨xs[k]'(by omega), List.getElem?_eq_getElem _⟩
      have hw2 : w2.heap.size < wr.heap.size := by
        rcases hA.2 with ⟨h, _⟩ | ⟨g, cap, cur, h, _, hg, _⟩
        · cases h
        · simp only [Value.slice.injEq, Option.some.injEq, Addr.mk.injEq, and_true] at h
          rw [h.1]; exact (Array.getElem?_eq_some_iff.1 hg).1
      have hix := fun ev => index_any _ L nm wr.heap.size (wr.alloc (.cells #[.string nm, ev] 44)) (HLL.out.later (hb.trans ((Below.refl _ wr).alloc (Nat.le_refl _) _ |>.mono hb.size))) (box_cell _ _ _ _ _ rfl) (by rw [World.size_alloc]; exact Nat.lt_succ_self _)
      have hBA : ∀ cs, Below wr.heap.size wr (wr.alloc (.cells cs 44)) := fun cs => (Below.refl _ _).alloc (Nat.le_refl _) _
      have hg0 : w.heap.size ≤ w2.heap.size := HB2.out.size
      cases hfi : findF L nm with
      | none =>
        have htf : toldF L C = ([], 220) := by
          rw [HTF.out, if_pos]
          rw [List.all_eq_false]
          exact ⟨x, List.mem_of_getElem? hx, by rw [hnm, hfi]; simp⟩
        have hix2 := hix (.slice a2 m2 cap2)
        rw [hfi, HN.out, show idxInt none = -1 from rfl] at hix2
        have HIX := Lib.hid hix2
        have HBA := Lib.hid hBA
        have HT := Lib.hid htf
        have HA := Lib.hid hA
        have HBW := Lib.hid hb
        have HX0 := Lib.hid hx0
        clear hix hix2 hBA htf hA hu hb hxs hcs d1 d2 hx hlt hx0
        go_wp2_with (first | (go_at_call 16; refine HIX.out.mono ?_; rintro e5 w5 ⟨rfl, hb5⟩
                              have hA5 := own_below (own_alloc HA.out _) hb5
                              have z0 := own_cell hA5 HX0.out
                              have zf := hA5.frozenAt k
                              have hb6 : Below w.heap.size w w5 := HBW.out.trans (((HBA.out _).trans (hb5.mono (HBA.out _).size)).mono HBW.out.size)
                              have z1 : (w5.setCell ⟨w2.heap.size, k, none⟩ (.int .i64 (-1))).cell? ⟨w2.heap.size, k, none⟩ = some (.int .i64 (-1)) := World.cell?_setCell_same _ _ _ z0) | go_in)
        go_ret2
        exact ⟨.slice none 0 0, by rw [HT.out]; rfl, (fun h => by rw [HT.out] at h; cases h), hb6.setCell (p := ⟨w2.heap.size, k, none⟩) hg0 _⟩
      | some j =>
        have hix2 := hix (.slice a2 m2 cap2)
        rw [hfi, HN.out, show idxInt (some j) = (j : Int) from rfl] at hix2
        have hjn : j < n := by have := findF_lt hfi; have := HN.out; omega
        have HIX := Lib.hid hix2
        have HBA := Lib.hid hBA
        have HA := Lib.hid hA
        have HUU := Lib.hid hu
        have HBW := Lib.hid hb
        have HX0 := Lib.hid hx0
        have HXS := Lib.hid hxs
        have HX := Lib.hid hx
        have HFI := Lib.hid hfi
        have HNM := Lib.hid hnm
        clear hix hix2 hBA hA hu hb hxs hcs d1 d2 hx hlt hx0 hfi hnm
        go_wp2_with (first | (go_at_call 16; refine HIX.out.mono ?_; rintro e5 w5 ⟨rfl, hb5⟩
                              have hA5 := own_below (own_alloc HA.out _) hb5
                              have hU5 := own_below (own_alloc HUU.out _) hb5
                              have z0 := own_cell hA5 HX0.out
                              have zf := hA5.frozenAt k
                              have hb6 : Below w.heap.size w w5 := HBW.out.trans (((HBA.out _).trans (hb5.mono (HBA.out _).size)).mono HBW.out.size)
                              have z1 : (w5.setCell ⟨w2.heap.size, k, none⟩ (.int .i64 (j : Int))).cell? ⟨w2.heap.size, k, none⟩ = some (.int .i64 (j : Int)) := World.cell?_setCell_same _ _ _ z0
                              have hX5 := Lib.hid (And.intro hA5 hU5)
                              clear hA5 hU5) | go_in)
        have hst := hX5.out.1.stored k (.int .i64 (j : Int))
        have hU6 := hX5.out.2.kept hst.2 (by
          rcases hX5.out.2.2 with ⟨h, _⟩ | ⟨g, cap, cur, h, _⟩
          · rw [h]; exact .inl rfl
          · simp only [Value.slice.injEq, true_and] at h
            right
            rw [h.1]
            have := hX5.out.2
            rw [h.1] at this
            have := own_apart this hX5.out.1 (by decide)
            simp [Value.ownBlock, this])
        go_roundw
        case rel =>
          refine ⟨k + 1, _, by omega, by go_num, hb6.setCell (p := ⟨w2.heap.size, k, none⟩) hg0 _, hst.1, hU6, fun i y hy hi => ?_⟩
          by_cases hik : i = k
          · subst hik
            have hyx : y = x := by have := HX.out; rw [hy] at this; simpa using this
            subst hyx
            exact ⟨j, by rw [HNM.out, HFI.out], by rw [List.getElem?_set_self (by omega)]⟩
          · obtain ⟨j', h1, h2⟩ := HXS.out i y hy (by omega)
            exact ⟨j', h1, by rw [List.getElem?_set_ne (by omega)]; exact h2⟩
        case measure => simp [intOf]; omega
    · obtain rfl : m = k := by omega
      have hall : C.all (fun c => (findF L c.name).isSome) = true := by
        rw [List.all_eq_true]
        intro y hy
        obtain ⟨i, hi⟩ := List.getElem?_of_mem hy
        obtain ⟨j, hj, _⟩ := hxs i y hi (by have := HM.out; have := (List.getElem?_eq_some_iff.1 hi).1; omega)
        rw [hj]; rfl
      have htf : toldF L C = appAll L C := by rw [HTF.out, hall]; rfl
      have HXS := Lib.hid hxs
      have HBX := Lib.hid hb
      have HAX := Lib.hid hA
      have HUX := Lib.hid hu
      have HTT := Lib.hid htf
      have HGB0 := Lib.hid (show w.heap.size ≤ w1.heap.size from HB1.out.size)
      clear hxs hb hA hu htf hall hkm hk HG3 HA3 HU3
      go_wp2
      go_loopw [43] (fun i wr => ∃ (k : Nat) (M : List Fil), k ≤ m ∧ i = .int .i64 k ∧ M.map (·.name) = L.map (·.name) ∧ wr.ownsRow w1.heap.size 26 2 (.slice ua n uc) n (filCells M) ∧ wr.ownsRow w2.heap.size 3 1 (.slice (some ⟨w2.heap.size, 0, none⟩) m m) m xs ∧
        Below w.heap.size w wr ∧ toldF L C = appAll M (C.drop k) ∧ (∀ f ∈ M, f.text.size + sumT (C.drop k) ≤ 2000000)) (fun i _ => m - (intOf i).toNat)
      case atStart => exact ⟨0, L, Nat.zero_le _, rfl, rfl, HUX.out, HAX.out, HBX.out, HTT.out, HB.out⟩
      case round =>
        clear HUX HAX HBX HTT
        obtain ⟨k, M, hk, rfl, hnm, hu, hA, hb, hap, hsz⟩ := hrel
        by_cases hkm : k < m
        · obtain ⟨x, hx⟩ : ∃ x, C[k]? = some x := ⟨C[k]'(by have := HM.out; omega), List.getElem?_eq_getElem _⟩
          rcases HC.out with h | ⟨b, o, rfl, hlt, hcs⟩
          · rw [h] at hx; simp at hx
          obtain ⟨d1, ev, d2, hev⟩ := hcs k x hx
          have c1 := cell_later hb d1
          have c2 := cell_later hb d2
          have hev' := hev.later hb
          obtain ⟨nm, hnm0⟩ : ∃ nm, x.name = nm := ⟨_, rfl⟩
          rw [hnm0] at c1
          obtain ⟨a2, cap2, rfl, _⟩ := hev
          obtain ⟨m2, hm2⟩ : ∃ m2, x.eds.length = m2 := ⟨_, rfl⟩
          rw [hm2] at c2 hev'
          have hltr : b < wr.heap.size := Nat.lt_of_lt_of_le hlt hb.size
          obtain ⟨j, hfj, hxk⟩ := HXS.out k x hx (by omega)
          have hjL : j < L.length := findF_lt hfj
          have hML : M.length = L.length := by have := congrArg List.length hnm; simpa using this
          obtain ⟨f, hf⟩ : ∃ f, M[j]? = some f := ⟨M[j]'(by omega), List.getElem?_eq_getElem _⟩
          have hjn : j < n := by have := HN.out; omega
          obtain ⟨G, cap, hua, hncap⟩ : ∃ G cap, Value.slice ua n uc = .slice (some ⟨G, 0, none⟩) n cap ∧ n ≤ cap := by
            rcases hu.2 with ⟨h, h0⟩ | ⟨G, cap, cur, h, _, _, hnc, _⟩
            · omega
            · exact ⟨G, cap, h, hnc⟩
          simp only [Value.slice.injEq, true_and] at hua
          obtain ⟨rfl, rfl⟩ := hua
          obtain ⟨q1, q2⟩ := filCells_at hf
          have hfk := q2
          have hbnd := hsz f (List.mem_of_getElem? hf)
          have hdr : C.drop k = x :: C.drop (k + 1) := by
            rw [List.drop_eq_getElem_cons (by have := HM.out; omega)]
            congr 1
            exact (List.getElem?_eq_some_iff.1 hx).2
          rw [hdr] at hbnd hap
          simp only [sumT] at hbnd
          have hfj' : findF M x.name = some j := by rw [findF_names hnm, hfj]
          simp only [appAll, hfj', hf] at hap
          have hasz := applyF_size f.text x.eds
          obtain ⟨at_, ae, hAF⟩ : ∃ at_ ae, applyF f.text x.eds = (at_, ae) := ⟨_, _, rfl⟩
          rw [hAF] at hap hasz
          dsimp only at hap hasz
          have hpos : ∀ cs, Below wr.heap.size wr (wr.alloc (.cells cs 44)) := fun cs => (Below.refl _ _).alloc (Nat.le_refl _) _
          have hapc : ∀ cs, Calls Tryd.prog 18 #[.string f.text, .slice a2 m2 cap2] (wr.alloc (.cells cs 44)).drew fun r w' => r = .returned (.tuple #[.string at_, .int .i64 ae]) ∧ Below (wr.alloc (.cells cs 44)).drew.heap.size (wr.alloc (.cells cs 44)).drew w' := fun cs => by
            have := apply_any f.text (by omega) (.slice a2 m2 cap2) x.eds (wr.alloc (.cells cs 44)).drew (EdsAt.later hev' (below_drew (hpos cs)))
            rwa [hAF] at this
          have hAD : ∀ cs, (wr.alloc (.cells cs 44)).drew.ownsRow w2.heap.size 3 1 (.slice (some ⟨w2.heap.size, 0, none⟩) m m) m xs := fun cs => own_alloc hA _
          have hGD : ∀ cs, (wr.alloc (.cells cs 44)).drew.ownsRow w1.heap.size 26 2 (.slice (some ⟨G, 0, none⟩) n uc) n (filCells M) := fun cs => own_alloc hu _
          have hGA : G ≠ w2.heap.size := own_apart hu hA (by decide)
          have y1 : (wr.alloc (.cells #[.string nm, .slice a2 m2 cap2] 44)).drew.cell? ⟨w2.heap.size, k, none⟩ = some (.int .i64 (j : Int)) := own_cell (hAD _) hxk
          have y2 : (wr.alloc (.cells #[.string nm, .slice a2 m2 cap2] 44)).drew.cell? ⟨G, j * 2 + 1, none⟩ = some (.string f.text) := own_cell (hGD _) hfk
          have y3 : (wr.alloc (.cells #[.string nm, .slice a2 m2 cap2] 44)).drew.cell? ⟨wr.heap.size, 1, none⟩ = some (.slice a2 m2 cap2) := by rw [World.cell?_drew]; exact box_cell _ _ _ _ _ rfl
          have i1 : (j : Int) < (n : Int) := by omega
          have hkk : k < m := hkm
          have HAP := Lib.hid (hapc #[.string nm, .slice a2 m2 cap2])
          have HAD := Lib.hid (hAD #[.string nm, .slice a2 m2 cap2])
          have HGD := Lib.hid (hGD #[.string nm, .slice a2 m2 cap2])
          have HBA := Lib.hid (hb.trans ((below_drew (hpos #[.string nm, .slice a2 m2 cap2])).mono hb.size))
          have HAPP := Lib.hid hap
          have HNMM := Lib.hid hnm
          have HSZ := Lib.hid hsz
          have HF := Lib.hid hf
          have HDR := Lib.hid hdr
          have HASZ := Lib.hid hasz
          have HGA := Lib.hid hGA
          have HBND := Lib.hid hbnd
          clear hapc hAD hGD hb hap hnm hsz hpos hf hdr hasz hGA hA hu hev' hfj hfj' hAF q1 q2 hbnd
          go_wp2
          refine wp_region_held_drew (S := fun w' : World => w'.cell? ⟨w2.heap.size, k, none⟩ = some (.int .i64 (j : Int)) ∧ w'.cell? ⟨G, j * 2 + 1, none⟩ = some (.string f.text) ∧ w'.cell? ⟨wr.heap.size, 1, none⟩ = some (.slice a2 m2 cap2)) (by kernel_rfl) ⟨y1, y2, y3⟩ (fun hHeld => ?_)
          refine takeH (i := 0) (d := some 49) (v := ?_) rfl rfl (by kernel_rfl) (by kernel_rfl) (by kernel_rfl) (fun _ _ _ h => h) (by rfl) ?_ (by assumption) ?_
          rotate_left 1
          · intro w hSw; (try dsimp only at hSw); go_simp; try with_reducible rfl
          simp only [Act.put, List.setIfInBounds_toArray, List.set]
          refine takeH (i := 1) (d := some 50) (v := ?_) rfl rfl (by kernel_rfl) (by kernel_rfl) (by kernel_rfl) (fun _ _ _ h => h) (by rfl) ?_ (by assumption) ?_
          rotate_left 1
          · intro w hSw; (try dsimp only at hSw); go_simp; try with_reducible rfl
          simp only [Act.put, List.setIfInBounds_toArray, List.set]
          refine takeH (i := 2) (d := some 51) (v := ?_) rfl rfl (by kernel_rfl) (by kernel_rfl) (by kernel_rfl) (fun _ _ _ h => h) (by rfl) ?_ (by assumption) ?_
          rotate_left 1
          · intro w hSw; (try dsimp only at hSw); go_simp; try with_reducible rfl
          simp only [Act.put, List.setIfInBounds_toArray, List.set]
          refine takeH (i := 3) (d := some 52) (v := ?_) rfl rfl (by kernel_rfl) (by kernel_rfl) (by kernel_rfl) (fun _ _ _ h => h) (by rfl) ?_ (by assumption) ?_
          rotate_left 1
          · intro w hSw; (try dsimp only at hSw); go_simp; try with_reducible rfl
          simp only [Act.put, List.setIfInBounds_toArray, List.set]
          refine takeH (i := 4) (d := some 53) (v := ?_) rfl rfl (by kernel_rfl) (by kernel_rfl) (by kernel_rfl) (fun _ _ _ h => h) (by rfl) ?_ (by assumption) ?_
          rotate_left 1
          · intro w hSw; (try dsimp only at hSw); go_simp; try with_reducible rfl
          simp only [Act.put, List.setIfInBounds_toArray, List.set]
          refine takeH (i := 5) (d := some 54) (v := ?_) rfl rfl (by kernel_rfl) (by kernel_rfl) (by kernel_rfl) (fun _ _ _ h => h) (by rfl) ?_ (by assumption) ?_
          rotate_left 1
          · intro w hSw; (try dsimp only at hSw); go_simp; try with_reducible rfl
          simp only [Act.put, List.setIfInBounds_toArray, List.set]
          refine takeH (i := 6) (d := some 55) (v := ?_) rfl rfl (by kernel_rfl) (by kernel_rfl) (by kernel_rfl) (fun _ _ _ h => h) (by rfl) ?_ (by assumption) ?_
          rotate_left 1
          · intro w hSw; (try dsimp only at hSw); go_simp; try with_reducible rfl
          simp only [Act.put, List.setIfInBounds_toArray, List.set]
          refine takeH (i := 7) (d := some 56) (v := ?_) rfl rfl (by kernel_rfl) (by kernel_rfl) (by kernel_rfl) (fun _ _ _ h => h) (by rfl) ?_ (by assumption) ?_
          rotate_left 1
          · intro w hSw; (try dsimp only at hSw); go_simp; try with_reducible rfl
          simp only [Act.put, List.setIfInBounds_toArray, List.set]
          refine takeH (i := 8) (d := some 57) (v := ?_) rfl rfl (by kernel_rfl) (by kernel_rfl) (by kernel_rfl) (fun _ _ _ h => h) (by rfl) ?_ (by assumption) ?_
          rotate_left 1
          · intro w hSw; (try dsimp only at hSw); go_simp; try with_reducible rfl
          simp only [Act.put, List.setIfInBounds_toArray, List.set]
          refine takeH (i := 9) (d := some 58) (v := ?_) rfl rfl (by kernel_rfl) (by kernel_rfl) (by kernel_rfl) (fun _ _ _ h => h) (by rfl) ?_ (by assumption) ?_
          rotate_left 1
          · intro w hSw; (try dsimp only at hSw); go_simp; try with_reducible rfl
          simp only [Act.put, List.setIfInBounds_toArray, List.set]
          refine wpAnyH_ready (rs := [10]) (by kernel_rfl) (by simp) ?_
          refine AllReadyH.cons rfl (fun K hK => ?_) AllReadyH.nil
          go_simp
          go_at_call 18
          refine HAP.out.mono ?_
          rintro e5 w5 ⟨rfl, hb5⟩
          have z1 : w5.cell? ⟨w2.heap.size, k, none⟩ = some (.int .i64 (j : Int)) := own_cell (own_below HAD.out hb5) hxk
          have z2 : w5.cell? ⟨G, j * 2 + 1, none⟩ = some (.string f.text) := own_cell (own_below HGD.out hb5) hfk
          have z3 : w5.cell? ⟨wr.heap.size, 1, none⟩ = some (.slice a2 m2 cap2) := cell_later hb5 y3
          go_wp2_with fail
          refine hK.out _ _ ⟨z1, z2, z3⟩ (fun hHeld => ?_)
          clear hK K
          refine takeH (i := 11) (d := some 48) (v := ?_) rfl rfl (by kernel_rfl) (by kernel_rfl) (by kernel_rfl) (fun _ _ _ h => h) (by rfl) ?_ (by assumption) ?_
          rotate_left 1
          · intro w hSw; (try dsimp only at hSw); go_simp; try with_reducible rfl
          simp only [Act.put, List.setIfInBounds_toArray, List.set]
          refine takeH (i := 12) (d := some 60) (v := ?_) rfl rfl (by kernel_rfl) (by kernel_rfl) (by kernel_rfl) (fun _ _ _ h => h) (by rfl) ?_ (by assumption) ?_
          rotate_left 1
          · intro w hSw; (try dsimp only at hSw); go_simp; try with_reducible rfl
          simp only [Act.put, List.setIfInBounds_toArray, List.set]
          refine takeH (i := 13) (d := some 61) (v := ?_) rfl rfl (by kernel_rfl) (by kernel_rfl) (by kernel_rfl) (fun _ _ _ h => h) (by rfl) ?_ (by assumption) ?_
          rotate_left 1
          · intro w hSw; (try dsimp only at hSw); go_simp; try with_reducible rfl
          simp only [Act.put, List.setIfInBounds_toArray, List.set]
          refine takeH (i := 14) (d := some 12) (v := ?_) rfl rfl (by kernel_rfl) (by kernel_rfl) (by kernel_rfl) (fun _ _ _ h => h) (by rfl) ?_ (by assumption) ?_
          rotate_left 1
          · intro w hSw; (try dsimp only at hSw); go_simp; try with_reducible rfl
          simp only [Act.put, List.setIfInBounds_toArray, List.set]
          refine takeH (i := 15) (d := some 13) (v := ?_) rfl rfl (by kernel_rfl) (by kernel_rfl) (by kernel_rfl) (fun _ _ _ h => h) (by rfl) ?_ (by assumption) ?_
          rotate_left 1
          · intro w hSw; (try dsimp only at hSw); go_simp; try with_reducible rfl
          simp only [Act.put, List.setIfInBounds_toArray, List.set]
          refine wpAnyH_done (by kernel_rfl) ?_ _
          by_cases hae : ae = 0
          · subst hae
            have hg2 := HAPP.out
            rw [if_pos rfl] at hg2
            have hGG := own_below HGD.out hb5
            have hst := hGG.stored (j * 2 + 1) (.string at_)
            rw [filCells_set HF.out] at hst
            have hAA := own_below HAD.out hb5
            have hA6 := hAA.kept hst.2 (.inr (by simp [Value.ownBlock]; exact fun e => HGA.out e.symm))
            have hfz := hGG.frozenAt (j * 2 + 1)
            have hgb := own_base hGG
            have hb6 : Below w.heap.size w (w5.setCell ⟨G, j * 2 + 1, none⟩ (.string at_)) := (HBA.out.trans (hb5.mono HBA.out.size)).setCell (p := ⟨G, j * 2 + 1, none⟩) (Nat.le_trans HGB0.out hgb) _
            have HX := Lib.hid (And.intro hst.1 (And.intro hA6 (And.intro hb6 hg2)))
            clear hGG hst hAA hA6 hb6 hg2
            go_wp2
            go_roundw
            case rel =>
              refine ⟨k + 1, M.set j ⟨f.name, at_⟩, by omega, by go_num, ?_, HX.out.1, HX.out.2.1, HX.out.2.2.1, HX.out.2.2.2, ?_⟩
              · rw [names_set HF.out]; exact HNMM.out
              · intro f' hf'
                have h9 := HSZ.out
                rw [HDR.out] at h9
                simp only [sumT] at h9
                rcases List.mem_or_eq_of_mem_set hf' with h | rfl
                · have := h9 f' h; omega
                · have := HASZ.out; have := HBND.out; dsimp only; omega
            case measure => simp [intOf]; omega
          · have hg2 := HAPP.out
            rw [if_neg hae] at hg2
            have HX := Lib.hid hg2
            have hae' : (ae == 0) = false := by simpa using hae
            clear hg2
            go_wp2
            go_ret2
            exact ⟨.slice none 0 0, by rw [HX.out]; rfl, fun h => (hae (by rw [HX.out] at h; exact h)).elim, HBA.out.trans (hb5.mono HBA.out.size)⟩
        · obtain rfl : m = k := by omega
          have hd : C.drop m = [] := List.drop_eq_nil_of_le (by have := HM.out; omega)
          rw [hd] at hap hsz
          have hML : M.length = L.length := by have := congrArg List.length hnm; simpa using this
          have hfin : FilsAt wr (.slice ua n uc) M := filsAt_of_row hu (by have := HN.out; omega) hn2 (fun f hf => ⟨by
            have : f.name ∈ L.map (·.name) := by rw [← hnm]; exact List.mem_map_of_mem hf
            obtain ⟨g, hg, hgn⟩ := List.mem_map.1 this
            rw [← hgn]
            exact (HLS.out g hg).1, by have := hsz f hf; omega⟩)
          have HAPP := Lib.hid (show toldF L C = (M, 0) from hap)
          have HFIN := Lib.hid hfin
          have HBB := Lib.hid hb
          clear hap hfin hb hu hA hsz hnm hd
          go_wp2
          go_ret2
          exact ⟨_, by rw [HAPP.out]; rfl, (fun _ => by rw [HAPP.out]; exact HFIN.out), HBB.out⟩

theorem told_any (v : Value) (L : List Fil) (u : Value) (C : List Chg) (ml : Int) (w : World) (hL : FilsAt w v L) (hC : ChgsAt w u C) (hm : w.cell? ⟨1, 0, none⟩ = some (.int .i64 ml)) (hB : ∀ f ∈ L, f.text.size + sumT C ≤ 2000000) :
    Calls Tryd.prog 8 #[v, u] w fun r w' => ∃ y, r = .returned (.tuple #[y, .int .i64 (toldF L C).2]) ∧ ((toldF L C).2 = 0 → FilsAt w' y (toldF L C).1) ∧ Below w.heap.size w w' := by
  cases h : validF C with
  | true => exact told_main v L u C ml w hL hC hm h hB
  | false =>
    have e : toldF L C = ([], 2) := by unfold toldF; rw [h]; rfl
    refine (told_bad v L u C ml w hL hC hm h).mono ?_
    rintro r w' ⟨rfl, hb⟩
    exact ⟨.slice none 0 0, by rw [e], (fun h => by rw [e] at h; cases h), hb⟩

/-! ### In two parts -/
theorem appAll_append : ∀ (A B : List Chg) (M N : List Fil), appAll M A = (N, 0) → appAll M (A ++ B) = appAll N B
  | [], B, M, N, h => by
    simp only [appAll, Prod.mk.injEq, and_true] at h
    subst h; rfl
  | c :: A, B, M, N, h => by
    simp only [appAll, List.cons_append] at h ⊢
    cases hf : findF M c.name with
    | none => rw [hf] at h; simp at h
    | some j =>
      rw [hf] at h
      cases hg : M[j]? with
      | none => simp only [hg] at h; simp at h
      | some f =>
        simp only [hg] at h ⊢
        by_cases h0 : (applyF f.text c.eds).2 = 0
        · rw [if_pos h0] at h ⊢
          exact appAll_append A B _ N h
        · rw [if_neg h0] at h
          simp only [Prod.mk.injEq] at h
          exact (h0 h.2).elim
theorem appAll_prefix : ∀ (A B : List Chg) (M N : List Fil), appAll M (A ++ B) = (N, 0) → ∃ K, appAll M A = (K, 0) ∧ appAll K B = (N, 0) ∧ K.map (·.name) = M.map (·.name)
  | [], B, M, N, h => ⟨M, rfl, h, rfl⟩
  | c :: A, B, M, N, h => by
    simp only [appAll, List.cons_append] at h ⊢
    cases hf : findF M c.name with
    | none => rw [hf] at h; simp at h
    | some j =>
      rw [hf] at h
      cases hg : M[j]? with
      | none => simp only [hg] at h; simp at h
      | some f =>
        simp only [hg] at h ⊢
        by_cases h0 : (applyF f.text c.eds).2 = 0
        · rw [if_pos h0] at h
          simp only [if_pos h0]
          obtain ⟨K, h1, h2, h3⟩ := appAll_prefix A B _ N h
          exact ⟨K, h1, h2, by rw [h3, names_set hg]⟩
        · rw [if_neg h0] at h
          simp only [Prod.mk.injEq] at h
          exact (h0 h.2).elim
theorem validGo_append : ∀ (A B : List Chg) (p : Option ByteArray), validGo p (A ++ B) = true → validGo p A = true ∧ validGo none B = true
  | [], B, p, h => by
    refine ⟨rfl, ?_⟩
    cases B with
    | nil => rfl
    | cons c B =>
      simp only [List.nil_append, validGo, headOk, Bool.and_eq_true] at h ⊢
      exact ⟨⟨h.1.1, h.1.2.1, trivial⟩, h.2⟩
  | c :: A, B, p, h => by
    simp only [List.cons_append, validGo, Bool.and_eq_true] at h ⊢
    obtain ⟨h1, h2⟩ := validGo_append A B _ h.2.2
    exact ⟨⟨h.1, h.2.1, h1⟩, h2⟩

theorem told_halves (L : List Fil) (A B : List Chg) (N : List Fil) (h : toldF L (A ++ B) = (N, 0)) : ∃ K, toldF L A = (K, 0) ∧ toldF K B = (N, 0) := by
  unfold toldF at h
  cases hv : validF (A ++ B) with
  | false => rw [hv] at h; simp at h
  | true =>
    obtain ⟨v1, v2⟩ := validGo_append A B none hv
    rw [hv] at h
    rw [if_neg (by simp)] at h
    cases ha : (A ++ B).all (fun c => (findF L c.name).isSome) with
    | false => rw [ha] at h; simp at h
    | true =>
      rw [ha, if_neg (by simp)] at h
      rw [List.all_append, Bool.and_eq_true] at ha
      obtain ⟨K, h1, h2, h3⟩ := appAll_prefix A B L N h
      refine ⟨K, ?_, ?_⟩
      · unfold toldF
        rw [show validF A = true from v1, ha.1]
        simpa using h1
      · unfold toldF
        have : B.all (fun c => (findF K c.name).isSome) = true := by
          rw [← ha.2]
          congr 1
          funext c
          rw [findF_names h3]
        rw [show validF B = true from v2, this]
        simpa using h2

/-- No text grows by more than what is put in. -/
theorem appAll_size : ∀ (C : List Chg) (M N : List Fil) (b : Nat), appAll M C = (N, 0) → (∀ f ∈ M, f.text.size + sumT C ≤ b) → ∀ f ∈ N, f.text.size ≤ b
  | [], M, N, b, h, hb, f, hf => by
    simp only [appAll, Prod.mk.injEq, and_true] at h
    subst h
    have := hb f hf
    omega
  | c :: C, M, N, b, h, hb, f, hf => by
    simp only [appAll] at h
    cases hx : findF M c.name with
    | none => rw [hx] at h; simp at h
    | some j =>
      rw [hx] at h
      cases hg : M[j]? with
      | none => simp only [hg] at h; simp at h
      | some g =>
        simp only [hg] at h
        by_cases h0 : (applyF g.text c.eds).2 = 0
        · rw [if_pos h0] at h
          refine appAll_size C _ N b h (fun f' hf' => ?_) f hf
          simp only [sumT] at hb
          rcases List.mem_or_eq_of_mem_set hf' with h' | rfl
          · have := hb f' h'; omega
          · have := hb g (List.mem_of_getElem? hg)
            have := applyF_size g.text c.eds
            dsimp only
            omega
        · rw [if_neg h0] at h
          simp only [Prod.mk.injEq] at h
          exact (h0 h.2).elim
theorem toldF_size {L N : List Fil} {C : List Chg} {b : Nat} (h : toldF L C = (N, 0)) (hb : ∀ f ∈ L, f.text.size + sumT C ≤ b) : ∀ f ∈ N, f.text.size ≤ b := by
  unfold toldF at h
  split at h
  · simp at h
  · split at h
    · simp at h
    · exact appAll_size C L N b h hb

end Go.Proofs.YtbodemkmjemdjaaDoor
