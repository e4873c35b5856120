/-
  What valid answers: whether changes are some.
-/
import Derived.Test.YtbodemkmjemdjaaDoorApply
import Derived.Deep.RegionHeld3
namespace Go.Proofs.YtbodemkmjemdjaaDoor
open Go.RowKit

section
variable {P : Program} {md : Region.Mode} {ops : Array Oper} {Q : Exit → Act → World → Prop} {S : World → Prop}
theorem takeH {i : Nat} {oi : Oper} {d : Option Tmp} {v : Value} {fuel : Nat} {listed : Array Bool} {a : Act} {w : World} (hi : ops[i]? = some oi) (hd : oi.dst = d)
    (hs : Region.noSelect ops = true) (hf : Region.free md ops listed i = true) (hr : (Region.ready md ops listed).contains i = true)
    (hQ : ∀ c a w, Q (.panic c) (a.put d v) w → Q (.panic c) a w) (hw : Region.wanted oi (yielded ops a.tmps) = true) (hy : ∀ w, S w → (execOp a.eval oi).run P w = .ok (.value v) w) (hS : S w)
    (h : wpAnyH P md ops Q S fuel (listed.setIfInBounds i true) (a.put d v) w) : wpAnyH P md ops Q S (fuel + 1) listed a w := by
  subst hd
  exact wpAnyH_take hi hs hf hr hQ (Or.inl ⟨hw, hy⟩) hS h
theorem skipH {i : Nat} {oi : Oper} {d : Option Tmp} {fuel : Nat} {listed : Array Bool} {a : Act} {w : World} (hi : ops[i]? = some oi) (hd : oi.dst = d)
    (hs : Region.noSelect ops = true) (hf : Region.free md ops listed i = true) (hr : (Region.ready md ops listed).contains i = true)
    (hQ : ∀ c a w, Q (.panic c) (a.put d undef) w → Q (.panic c) a w) (hw : Region.wanted oi (yielded ops a.tmps) = false) (hS : S w)
    (h : wpAnyH P md ops Q S fuel (listed.setIfInBounds i true) (a.put d undef) w) : wpAnyH P md ops Q S (fuel + 1) listed a w := by
  subst hd
  exact wpAnyH_take hi hs hf hr hQ (Or.inr ⟨hw, rfl⟩) hS h
end

def leB (x y : ByteArray) : Bool := Op.bytesLess x.toList y.toList || x.toList == y.toList
theorem run_leq (x y : ByteArray) (w : World) : Sem.run Tryd.prog (binOp BinOp.leq 9 (Value.string x) (Value.string y)) w = .ok (.bool (leB x y)) w := rfl
def edsOk : Int → List Ed → Bool
  | _, [] => true
  | last, e :: E => (nextF e last && decide ((linesOf e.tx).length ≤ 65536)) && edsOk e.tt E
def headOk (p : Option ByteArray) (c : Chg) : Bool :=
  pathOk c.name && (decide (c.eds.length ≠ 0) && (match p with | none => true | some q => !leB c.name q))
def validGo : Option ByteArray → List Chg → Bool
  | _, [] => true
  | p, c :: C => headOk p c && (edsOk (-1) c.eds && validGo (some c.name) C)
def validF (C : List Chg) : Bool := validGo none C
/-- The name ahead of place k. -/
def prevN (C : List Chg) (k : Nat) : Option ByteArray := if k = 0 then none else (C[k - 1]?).map (·.name)

theorem validGo_drop {C : List Chg} {k : Nat} {c : Chg} (h : C[k]? = some c) : validGo (prevN C k) (C.drop k) = (headOk (prevN C k) c && (edsOk (-1) c.eds && validGo (prevN C (k + 1)) (C.drop (k + 1)))) := by
  obtain ⟨hk, hc⟩ := List.getElem?_eq_some_iff.1 h
  have e : prevN C (k + 1) = some c.name := by unfold prevN; rw [if_neg (by omega), Nat.add_sub_cancel, h]; rfl
  rw [List.drop_eq_getElem_cons hk, hc, e]
  rfl
theorem edsOk_drop {E : List Ed} {k : Nat} {e : Ed} {last : Int} (h : E[k]? = some e) : edsOk last (E.drop k) = ((nextF e last && decide ((linesOf e.tx).length ≤ 65536)) && edsOk e.tt (E.drop (k + 1))) := by
  obtain ⟨hk, hc⟩ := List.getElem?_eq_some_iff.1 h
  rw [List.drop_eq_getElem_cons hk, hc]
  rfl

set_option maxHeartbeats 8000000 in
set_option maxRecDepth 100000 in
theorem valid_any (v : Value) (C : List Chg) (ml : Int) (w : World) (hC : ChgsAt w v C) (hm : w.cell? ⟨1, 0, none⟩ = some (.int .i64 ml)) :
    Calls Tryd.prog 14 #[v] w fun r w' => r = .returned (.bool (validF C)) ∧ Below w.heap.size w w' := by
  obtain ⟨a, c, rfl, hc, hcm, hC2, hCn, hC⟩ := hC
  obtain ⟨m, hm2⟩ : ∃ m, C.length = m := ⟨_, rfl⟩
  rw [hm2] at hc hC2 ⊢
  have HC := Lib.hid hC; clear hC
  have HM := Lib.hid hm2; clear hm2
  have HCN := Lib.hid hCn; clear hCn
  have HML := Lib.hid hm; clear hm
  go_enter Tryd.func14, Tryd.ntmps14
  go_wp2
  go_loopw [10] (fun i wr => ∃ (k : Nat), k ≤ m ∧ i = .int .i64 k ∧ Below w.heap.size w wr ∧ validF C = validGo (prevN C k) (C.drop k)) (fun i _ => m - (intOf i).toNat)
  case atStart => exact ⟨0, Nat.zero_le _, rfl, Below.refl _ _, rfl⟩
  case round =>
    obtain ⟨k, hk, rfl, hb, hv⟩ := hrel
    by_cases hkm : k < m
    · obtain ⟨x, hx⟩ : ∃ x, C[k]? = some x := ⟨C[k]'(by have := HM.out; omega), List.getElem?_eq_getElem _⟩
      have hxn := HCN.out x (List.mem_of_getElem? hx)
      rcases HC.out with h | ⟨b, o, rfl, hlt, hcs⟩
      · rw [h] at hx; simp at hx
      obtain ⟨d1, ev, d2, hev⟩ := hcs k x hx
      rw [validGo_drop hx] at hv
      have c1 := cell_later hb d1
      have c2 := cell_later hb d2
      have hE := hev
      obtain ⟨a2, cap2, rfl, hcap2, hE2, hEf, hEc⟩ := hE
      obtain ⟨m2, hm2⟩ : ∃ m2, x.eds.length = m2 := ⟨_, rfl⟩
      obtain ⟨nm, hnm⟩ : ∃ nm, x.name = nm := ⟨_, rfl⟩
      rw [hm2] at hcap2 hE2 c2
      rw [hnm] at c1 hxn
      have hltr : b < wr.heap.size := Nat.lt_of_lt_of_le hlt hb.size
      have hpath : ∀ W, Below wr.heap.size wr W → Calls Tryd.prog 26 #[.string nm] W fun e w' => e = .returned (.bool (pathOk nm)) ∧ Below W.heap.size W w' := fun W hW =>
        path_any nm ml W (by omega) (cell_later (hb.trans (hW.mono hb.size)) HML.out)
      have hA : ∀ cs, Below wr.heap.size wr (wr.alloc (.cells cs 44)) := fun cs => (Below.refl _ _).alloc (Nat.le_refl _) _
      have HPATH := Lib.hid hpath
      have HA := Lib.hid hA
      have HB := Lib.hid hb
      have HV := Lib.hid hv
      have HEF := Lib.hid hEf
      have HEC := Lib.hid hEc
      have HM2 := Lib.hid hm2
      have HNM := Lib.hid hnm
      have HX := Lib.hid hx
      have HCS := Lib.hid hcs
      clear hpath hA hb hv hEf hEc hm2 hnm hx hcs hev d1 d2 hlt hxn
      have y0 : (wr.alloc (.cells #[.string nm, .slice a2 m2 cap2] 44)).drew.cell? ⟨wr.heap.size, 0, none⟩ = some (.string nm) := by rw [World.cell?_drew]; exact box_cell _ _ _ _ _ rfl
      have y1 : (wr.alloc (.cells #[.string nm, .slice a2 m2 cap2] 44)).drew.cell? ⟨wr.heap.size, 1, none⟩ = some (.slice a2 m2 cap2) := by rw [World.cell?_drew]; exact box_cell _ _ _ _ _ rfl
      cases hp : pathOk nm with
      | false =>
        have HF := Lib.hid (show validF C = false by rw [HV.out]; unfold headOk; rw [HNM.out, hp]; rfl)
        rw [hp] at HPATH
        clear hp
        go_wp2
        refine wp_region_held_drew (S := fun w' : World => w'.cell? ⟨wr.heap.size, 0, none⟩ = some (.string nm) ∧ w'.cell? ⟨wr.heap.size, 1, none⟩ = some (.slice a2 m2 cap2)) (by kernel_rfl) ⟨y0, y1⟩ (fun hHeld => ?_)
        refine takeH (i := 0) (d := some 15) (v := ?_) rfl rfl (by kernel_rfl) (by kernel_rfl) (by kernel_rfl) (fun _ _ _ h => h) (by rfl) ?_ (by assumption) ?_
        rotate_left 1
        · intro w hSw; (try dsimp only at hSw); go_simp; try with_reducible rfl
        simp only [Act.put, List.setIfInBounds_toArray, List.set]
        refine takeH (i := 1) (d := some 16) (v := ?_) rfl rfl (by kernel_rfl) (by kernel_rfl) (by kernel_rfl) (fun _ _ _ h => h) (by rfl) ?_ (by assumption) ?_
        rotate_left 1
        · intro w hSw; (try dsimp only at hSw); go_simp; try with_reducible rfl
        simp only [Act.put, List.setIfInBounds_toArray, List.set]
        refine wpAnyH_ready (rs := [2]) (by kernel_rfl) (by simp) ?_
        refine AllReadyH.cons rfl (fun K hK => ?_) AllReadyH.nil
        go_simp
        go_at_call 26
        refine (HPATH.out _ (below_drew (HA.out _))).mono ?_
        rintro e5 w5 ⟨rfl, hb5⟩
        have z0 := hb5.cell (p := ⟨wr.heap.size, 0, none⟩) (by simp)
        have z1 := hb5.cell (p := ⟨wr.heap.size, 1, none⟩) (by simp)
        rw [y0] at z0
        rw [y1] at z1
        have hbx : Below wr.heap.size wr w5 := (below_drew (HA.out _)).trans (hb5.mono (HA.out _).size)
        have hbw : Below w.heap.size w w5 := HB.out.trans (hbx.mono HB.out.size)
        go_wp2_with fail
        refine hK.out _ _ ⟨z0, z1⟩ (fun hHeld => ?_)
        clear hK K
        refine takeH (i := 3) (d := some 18) (v := ?_) rfl rfl (by kernel_rfl) (by kernel_rfl) (by kernel_rfl) (fun _ _ _ h => h) (by rfl) ?_ (by assumption) ?_
        rotate_left 1
        · intro w hSw; (try dsimp only at hSw); go_simp; try with_reducible rfl
        simp only [Act.put, List.setIfInBounds_toArray, List.set]
        refine takeH (i := 4) (d := some 19) (v := ?_) rfl rfl (by kernel_rfl) (by kernel_rfl) (by kernel_rfl) (fun _ _ _ h => h) (by rfl) ?_ (by assumption) ?_
        rotate_left 1
        · intro w hSw; (try dsimp only at hSw); go_simp; try with_reducible rfl
        simp only [Act.put, List.setIfInBounds_toArray, List.set]
        refine skipH (i := 5) (d := some 20) rfl rfl (by kernel_rfl) (by kernel_rfl) (by kernel_rfl) (fun _ _ _ h => h) (by rfl) (by assumption) ?_
        simp only [Act.put, List.setIfInBounds_toArray, List.set]
        refine skipH (i := 6) (d := some 21) rfl rfl (by kernel_rfl) (by kernel_rfl) (by kernel_rfl) (fun _ _ _ h => h) (by rfl) (by assumption) ?_
        simp only [Act.put, List.setIfInBounds_toArray, List.set]
        refine skipH (i := 7) (d := some 22) rfl rfl (by kernel_rfl) (by kernel_rfl) (by kernel_rfl) (fun _ _ _ h => h) (by rfl) (by assumption) ?_
        simp only [Act.put, List.setIfInBounds_toArray, List.set]
        refine skipH (i := 8) (d := some 23) rfl rfl (by kernel_rfl) (by kernel_rfl) (by kernel_rfl) (fun _ _ _ h => h) (by rfl) (by assumption) ?_
        simp only [Act.put, List.setIfInBounds_toArray, List.set]
        refine takeH (i := 9) (d := some 24) (v := ?_) rfl rfl (by kernel_rfl) (by kernel_rfl) (by kernel_rfl) (fun _ _ _ h => h) (by rfl) ?_ (by assumption) ?_
        rotate_left 1
        · intro w hSw; (try dsimp only at hSw); go_simp; try with_reducible rfl
        simp only [Act.put, List.setIfInBounds_toArray, List.set]
        refine takeH (i := 10) (d := some 25) (v := ?_) rfl rfl (by kernel_rfl) (by kernel_rfl) (by kernel_rfl) (fun _ _ _ h => h) (by rfl) ?_ (by assumption) ?_
        rotate_left 1
        · intro w hSw; (try dsimp only at hSw); go_simp; try with_reducible rfl
        simp only [Act.put, List.setIfInBounds_toArray, List.set]
        refine skipH (i := 11) (d := some 26) rfl rfl (by kernel_rfl) (by kernel_rfl) (by kernel_rfl) (fun _ _ _ h => h) (by rfl) (by assumption) ?_
        simp only [Act.put, List.setIfInBounds_toArray, List.set]
        refine skipH (i := 12) (d := some 27) rfl rfl (by kernel_rfl) (by kernel_rfl) (by kernel_rfl) (fun _ _ _ h => h) (by rfl) (by assumption) ?_
        simp only [Act.put, List.setIfInBounds_toArray, List.set]
        refine skipH (i := 13) (d := some 28) rfl rfl (by kernel_rfl) (by kernel_rfl) (by kernel_rfl) (fun _ _ _ h => h) (by rfl) (by assumption) ?_
        simp only [Act.put, List.setIfInBounds_toArray, List.set]
        refine skipH (i := 14) (d := some 29) rfl rfl (by kernel_rfl) (by kernel_rfl) (by kernel_rfl) (fun _ _ _ h => h) (by rfl) (by assumption) ?_
        simp only [Act.put, List.setIfInBounds_toArray, List.set]
        refine skipH (i := 15) (d := some 30) rfl rfl (by kernel_rfl) (by kernel_rfl) (by kernel_rfl) (fun _ _ _ h => h) (by rfl) (by assumption) ?_
        simp only [Act.put, List.setIfInBounds_toArray, List.set]
        refine skipH (i := 16) (d := some 31) rfl rfl (by kernel_rfl) (by kernel_rfl) (by kernel_rfl) (fun _ _ _ h => h) (by rfl) (by assumption) ?_
        simp only [Act.put, List.setIfInBounds_toArray, List.set]
        refine skipH (i := 17) (d := some 32) rfl rfl (by kernel_rfl) (by kernel_rfl) (by kernel_rfl) (fun _ _ _ h => h) (by rfl) (by assumption) ?_
        simp only [Act.put, List.setIfInBounds_toArray, List.set]
        refine skipH (i := 18) (d := some 33) rfl rfl (by kernel_rfl) (by kernel_rfl) (by kernel_rfl) (fun _ _ _ h => h) (by rfl) (by assumption) ?_
        simp only [Act.put, List.setIfInBounds_toArray, List.set]
        refine skipH (i := 19) (d := some 34) rfl rfl (by kernel_rfl) (by kernel_rfl) (by kernel_rfl) (fun _ _ _ h => h) (by rfl) (by assumption) ?_
        simp only [Act.put, List.setIfInBounds_toArray, List.set]
        refine skipH (i := 20) (d := some 35) rfl rfl (by kernel_rfl) (by kernel_rfl) (by kernel_rfl) (fun _ _ _ h => h) (by rfl) (by assumption) ?_
        simp only [Act.put, List.setIfInBounds_toArray, List.set]
        refine skipH (i := 21) (d := some 36) rfl rfl (by kernel_rfl) (by kernel_rfl) (by kernel_rfl) (fun _ _ _ h => h) (by rfl) (by assumption) ?_
        simp only [Act.put, List.setIfInBounds_toArray, List.set]
        refine skipH (i := 22) (d := some 37) rfl rfl (by kernel_rfl) (by kernel_rfl) (by kernel_rfl) (fun _ _ _ h => h) (by rfl) (by assumption) ?_
        simp only [Act.put, List.setIfInBounds_toArray, List.set]
        refine skipH (i := 23) (d := some 38) rfl rfl (by kernel_rfl) (by kernel_rfl) (by kernel_rfl) (fun _ _ _ h => h) (by rfl) (by assumption) ?_
        simp only [Act.put, List.setIfInBounds_toArray, List.set]
        refine takeH (i := 24) (d := some 39) (v := ?_) rfl rfl (by kernel_rfl) (by kernel_rfl) (by kernel_rfl) (fun _ _ _ h => h) (by rfl) ?_ (by assumption) ?_
        rotate_left 1
        · intro w hSw; (try dsimp only at hSw); go_simp; try with_reducible rfl
        simp only [Act.put, List.setIfInBounds_toArray, List.set]
        refine wpAnyH_done (by kernel_rfl) ?_ _
        go_wp2
        go_ret
        exact ⟨by rw [HF.out]; rfl, hbw⟩
      | true =>
        rw [hp] at HPATH
        by_cases h2 : m2 = 0
        · have HF := Lib.hid (show validF C = false by rw [HV.out]; unfold headOk; rw [HM2.out, h2]; simp)
          subst h2
          clear hp
          go_wp2
          refine wp_region_held_drew (S := fun w' : World => w'.cell? ⟨wr.heap.size, 0, none⟩ = some (.string nm) ∧ w'.cell? ⟨wr.heap.size, 1, none⟩ = some (.slice a2 0 cap2)) (by kernel_rfl) ⟨y0, y1⟩ (fun hHeld => ?_)
          refine takeH (i := 0) (d := some 15) (v := ?_) rfl rfl (by kernel_rfl) (by kernel_rfl) (by kernel_rfl) (fun _ _ _ h => h) (by rfl) ?_ (by assumption) ?_
          rotate_left 1
          · intro w hSw; (try dsimp only at hSw); go_simp; try with_reducible rfl
          simp only [Act.put, List.setIfInBounds_toArray, List.set]
          refine takeH (i := 1) (d := some 16) (v := ?_) rfl rfl (by kernel_rfl) (by kernel_rfl) (by kernel_rfl) (fun _ _ _ h => h) (by rfl) ?_ (by assumption) ?_
          rotate_left 1
          · intro w hSw; (try dsimp only at hSw); go_simp; try with_reducible rfl
          simp only [Act.put, List.setIfInBounds_toArray, List.set]
          refine wpAnyH_ready (rs := [2]) (by kernel_rfl) (by simp) ?_
          refine AllReadyH.cons rfl (fun K hK => ?_) AllReadyH.nil
          go_simp
          go_at_call 26
          refine (HPATH.out _ (below_drew (HA.out _))).mono ?_
          rintro e5 w5 ⟨rfl, hb5⟩
          have z0 := hb5.cell (p := ⟨wr.heap.size, 0, none⟩) (by simp)
          have z1 := hb5.cell (p := ⟨wr.heap.size, 1, none⟩) (by simp)
          rw [y0] at z0
          rw [y1] at z1
          have hbx : Below wr.heap.size wr w5 := (below_drew (HA.out _)).trans (hb5.mono (HA.out _).size)
          have hbw : Below w.heap.size w w5 := HB.out.trans (hbx.mono HB.out.size)
          go_wp2_with fail
          refine hK.out _ _ ⟨z0, z1⟩ (fun hHeld => ?_)
          clear hK K
          refine takeH (i := 3) (d := some 18) (v := ?_) rfl rfl (by kernel_rfl) (by kernel_rfl) (by kernel_rfl) (fun _ _ _ h => h) (by rfl) ?_ (by assumption) ?_
          rotate_left 1
          · intro w hSw; (try dsimp only at hSw); go_simp; try with_reducible rfl
          simp only [Act.put, List.setIfInBounds_toArray, List.set]
          refine takeH (i := 4) (d := some 19) (v := ?_) rfl rfl (by kernel_rfl) (by kernel_rfl) (by kernel_rfl) (fun _ _ _ h => h) (by rfl) ?_ (by assumption) ?_
          rotate_left 1
          · intro w hSw; (try dsimp only at hSw); go_simp; try with_reducible rfl
          simp only [Act.put, List.setIfInBounds_toArray, List.set]
          refine takeH (i := 5) (d := some 20) (v := ?_) rfl rfl (by kernel_rfl) (by kernel_rfl) (by kernel_rfl) (fun _ _ _ h => h) (by rfl) ?_ (by assumption) ?_
          rotate_left 1
          · intro w hSw; (try dsimp only at hSw); go_simp; try with_reducible rfl
          simp only [Act.put, List.setIfInBounds_toArray, List.set]
          refine takeH (i := 6) (d := some 21) (v := ?_) rfl rfl (by kernel_rfl) (by kernel_rfl) (by kernel_rfl) (fun _ _ _ h => h) (by rfl) ?_ (by assumption) ?_
          rotate_left 1
          · intro w hSw; (try dsimp only at hSw); go_simp; try with_reducible rfl
          simp only [Act.put, List.setIfInBounds_toArray, List.set]
          refine takeH (i := 7) (d := some 22) (v := ?_) rfl rfl (by kernel_rfl) (by kernel_rfl) (by kernel_rfl) (fun _ _ _ h => h) (by rfl) ?_ (by assumption) ?_
          rotate_left 1
          · intro w hSw; (try dsimp only at hSw); go_simp; try with_reducible rfl
          simp only [Act.put, List.setIfInBounds_toArray, List.set]
          refine takeH (i := 8) (d := some 23) (v := ?_) rfl rfl (by kernel_rfl) (by kernel_rfl) (by kernel_rfl) (fun _ _ _ h => h) (by rfl) ?_ (by assumption) ?_
          rotate_left 1
          · intro w hSw; (try dsimp only at hSw); go_simp; try with_reducible rfl
          simp only [Act.put, List.setIfInBounds_toArray, List.set]
          refine takeH (i := 9) (d := some 24) (v := ?_) rfl rfl (by kernel_rfl) (by kernel_rfl) (by kernel_rfl) (fun _ _ _ h => h) (by rfl) ?_ (by assumption) ?_
          rotate_left 1
          · intro w hSw; (try dsimp only at hSw); go_simp; try with_reducible rfl
          simp only [Act.put, List.setIfInBounds_toArray, List.set]
          refine takeH (i := 10) (d := some 25) (v := ?_) rfl rfl (by kernel_rfl) (by kernel_rfl) (by kernel_rfl) (fun _ _ _ h => h) (by rfl) ?_ (by assumption) ?_
          rotate_left 1
          · intro w hSw; (try dsimp only at hSw); go_simp; try with_reducible rfl
          simp only [Act.put, List.setIfInBounds_toArray, List.set]
          refine skipH (i := 11) (d := some 26) rfl rfl (by kernel_rfl) (by kernel_rfl) (by kernel_rfl) (fun _ _ _ h => h) (by rfl) (by assumption) ?_
          simp only [Act.put, List.setIfInBounds_toArray, List.set]
          refine skipH (i := 12) (d := some 27) rfl rfl (by kernel_rfl) (by kernel_rfl) (by kernel_rfl) (fun _ _ _ h => h) (by rfl) (by assumption) ?_
          simp only [Act.put, List.setIfInBounds_toArray, List.set]
          refine skipH (i := 13) (d := some 28) rfl rfl (by kernel_rfl) (by kernel_rfl) (by kernel_rfl) (fun _ _ _ h => h) (by rfl) (by assumption) ?_
          simp only [Act.put, List.setIfInBounds_toArray, List.set]
          refine skipH (i := 14) (d := some 29) rfl rfl (by kernel_rfl) (by kernel_rfl) (by kernel_rfl) (fun _ _ _ h => h) (by rfl) (by assumption) ?_
          simp only [Act.put, List.setIfInBounds_toArray, List.set]
          refine skipH (i := 15) (d := some 30) rfl rfl (by kernel_rfl) (by kernel_rfl) (by kernel_rfl) (fun _ _ _ h => h) (by rfl) (by assumption) ?_
          simp only [Act.put, List.setIfInBounds_toArray, List.set]
          refine skipH (i := 16) (d := some 31) rfl rfl (by kernel_rfl) (by kernel_rfl) (by kernel_rfl) (fun _ _ _ h => h) (by rfl) (by assumption) ?_
          simp only [Act.put, List.setIfInBounds_toArray, List.set]
          refine skipH (i := 17) (d := some 32) rfl rfl (by kernel_rfl) (by kernel_rfl) (by kernel_rfl) (fun _ _ _ h => h) (by rfl) (by assumption) ?_
          simp only [Act.put, List.setIfInBounds_toArray, List.set]
          refine skipH (i := 18) (d := some 33) rfl rfl (by kernel_rfl) (by kernel_rfl) (by kernel_rfl) (fun _ _ _ h => h) (by rfl) (by assumption) ?_
          simp only [Act.put, List.setIfInBounds_toArray, List.set]
          refine skipH (i := 19) (d := some 34) rfl rfl (by kernel_rfl) (by kernel_rfl) (by kernel_rfl) (fun _ _ _ h => h) (by rfl) (by assumption) ?_
          simp only [Act.put, List.setIfInBounds_toArray, List.set]
          refine skipH (i := 20) (d := some 35) rfl rfl (by kernel_rfl) (by kernel_rfl) (by kernel_rfl) (fun _ _ _ h => h) (by rfl) (by assumption) ?_
          simp only [Act.put, List.setIfInBounds_toArray, List.set]
          refine skipH (i := 21) (d := some 36) rfl rfl (by kernel_rfl) (by kernel_rfl) (by kernel_rfl) (fun _ _ _ h => h) (by rfl) (by assumption) ?_
          simp only [Act.put, List.setIfInBounds_toArray, List.set]
          refine skipH (i := 22) (d := some 37) rfl rfl (by kernel_rfl) (by kernel_rfl) (by kernel_rfl) (fun _ _ _ h => h) (by rfl) (by assumption) ?_
          simp only [Act.put, List.setIfInBounds_toArray, List.set]
          refine skipH (i := 23) (d := some 38) rfl rfl (by kernel_rfl) (by kernel_rfl) (by kernel_rfl) (fun _ _ _ h => h) (by rfl) (by assumption) ?_
          simp only [Act.put, List.setIfInBounds_toArray, List.set]
          refine takeH (i := 24) (d := some 39) (v := ?_) rfl rfl (by kernel_rfl) (by kernel_rfl) (by kernel_rfl) (fun _ _ _ h => h) (by rfl) ?_ (by assumption) ?_
          rotate_left 1
          · intro w hSw; (try dsimp only at hSw); go_simp; try with_reducible rfl
          simp only [Act.put, List.setIfInBounds_toArray, List.set]
          refine wpAnyH_done (by kernel_rfl) ?_ _
          go_wp2
          go_ret
          exact ⟨by rw [HF.out]; rfl, hbw⟩
        · have g2 : ((m2 : Int) == 0) = false := by simp; omega
          by_cases hk0 : k = 0
          · have hho : headOk (prevN C k) x = true := by unfold headOk prevN; rw [HM2.out, HNM.out, hp, if_pos hk0]; simp [h2]
            have HG := Lib.hid (show validF C = (edsOk (-1) (x.eds.drop 0) && validGo (prevN C (k + 1)) (C.drop (k + 1))) by rw [HV.out, hho]; rfl)
            have gk : decide (0 < k) = false := by simp; omega
            clear hp hho hk0
            go_wp2
            refine wp_region_held_drew (S := fun w' : World => w'.cell? ⟨wr.heap.size, 0, none⟩ = some (.string nm) ∧ w'.cell? ⟨wr.heap.size, 1, none⟩ = some (.slice a2 m2 cap2)) (by kernel_rfl) ⟨y0, y1⟩ (fun hHeld => ?_)
            refine takeH (i := 0) (d := some 15) (v := ?_) rfl rfl (by kernel_rfl) (by kernel_rfl) (by kernel_rfl) (fun _ _ _ h => h) (by rfl) ?_ (by assumption) ?_
            rotate_left 1
            · intro w hSw; (try dsimp only at hSw); go_simp; try with_reducible rfl
            simp only [Act.put, List.setIfInBounds_toArray, List.set]
            refine takeH (i := 1) (d := some 16) (v := ?_) rfl rfl (by kernel_rfl) (by kernel_rfl) (by kernel_rfl) (fun _ _ _ h => h) (by rfl) ?_ (by assumption) ?_
            rotate_left 1
            · intro w hSw; (try dsimp only at hSw); go_simp; try with_reducible rfl
            simp only [Act.put, List.setIfInBounds_toArray, List.set]
            refine wpAnyH_ready (rs := [2]) (by kernel_rfl) (by simp) ?_
            refine AllReadyH.cons rfl (fun K hK => ?_) AllReadyH.nil
            go_simp
            go_at_call 26
            refine (HPATH.out _ (below_drew (HA.out _))).mono ?_
            rintro e5 w5 ⟨rfl, hb5⟩
            have z0 := hb5.cell (p := ⟨wr.heap.size, 0, none⟩) (by simp)
            have z1 := hb5.cell (p := ⟨wr.heap.size, 1, none⟩) (by simp)
            rw [y0] at z0
            rw [y1] at z1
            have hbx : Below wr.heap.size wr w5 := (below_drew (HA.out _)).trans (hb5.mono (HA.out _).size)
            have hbw : Below w.heap.size w w5 := HB.out.trans (hbx.mono HB.out.size)
            go_wp2_with fail
            refine hK.out _ _ ⟨z0, z1⟩ (fun hHeld => ?_)
            clear hK K
            refine takeH (i := 3) (d := some 18) (v := ?_) rfl rfl (by kernel_rfl) (by kernel_rfl) (by kernel_rfl) (fun _ _ _ h => h) (by rfl) ?_ (by assumption) ?_
            rotate_left 1
            · intro w hSw; (try dsimp only at hSw); go_simp; try with_reducible rfl
            simp only [Act.put, List.setIfInBounds_toArray, List.set]
            refine takeH (i := 4) (d := some 19) (v := ?_) rfl rfl (by kernel_rfl) (by kernel_rfl) (by kernel_rfl) (fun _ _ _ h => h) (by rfl) ?_ (by assumption) ?_
            rotate_left 1
            · intro w hSw; (try dsimp only at hSw); go_simp; try with_reducible rfl
            simp only [Act.put, List.setIfInBounds_toArray, List.set]
            refine takeH (i := 5) (d := some 20) (v := ?_) rfl rfl (by kernel_rfl) (by kernel_rfl) (by kernel_rfl) (fun _ _ _ h => h) (by rfl) ?_ (by assumption) ?_
            rotate_left 1
            · intro w hSw; (try dsimp only at hSw); go_simp; try with_reducible rfl
            simp only [Act.put, List.setIfInBounds_toArray, List.set]
            refine takeH (i := 6) (d := some 21) (v := ?_) rfl rfl (by kernel_rfl) (by kernel_rfl) (by kernel_rfl) (fun _ _ _ h => h) (by rfl) ?_ (by assumption) ?_
            rotate_left 1
            · intro w hSw; (try dsimp only at hSw); go_simp; try with_reducible rfl
            simp only [Act.put, List.setIfInBounds_toArray, List.set]
            refine takeH (i := 7) (d := some 22) (v := ?_) rfl rfl (by kernel_rfl) (by kernel_rfl) (by kernel_rfl) (fun _ _ _ h => h) (by rfl) ?_ (by assumption) ?_
            rotate_left 1
            · intro w hSw; (try dsimp only at hSw); go_simp; try with_reducible rfl
            simp only [Act.put, List.setIfInBounds_toArray, List.set]
            refine takeH (i := 8) (d := some 23) (v := ?_) rfl rfl (by kernel_rfl) (by kernel_rfl) (by kernel_rfl) (fun _ _ _ h => h) (by rfl) ?_ (by assumption) ?_
            rotate_left 1
            · intro w hSw; (try dsimp only at hSw); go_simp; try with_reducible rfl
            simp only [Act.put, List.setIfInBounds_toArray, List.set]
            refine takeH (i := 9) (d := some 24) (v := ?_) rfl rfl (by kernel_rfl) (by kernel_rfl) (by kernel_rfl) (fun _ _ _ h => h) (by rfl) ?_ (by assumption) ?_
            rotate_left 1
            · intro w hSw; (try dsimp only at hSw); go_simp; try with_reducible rfl
            simp only [Act.put, List.setIfInBounds_toArray, List.set]
            refine takeH (i := 10) (d := some 25) (v := ?_) rfl rfl (by kernel_rfl) (by kernel_rfl) (by kernel_rfl) (fun _ _ _ h => h) (by rfl) ?_ (by assumption) ?_
            rotate_left 1
            · intro w hSw; (try dsimp only at hSw); go_simp; try with_reducible rfl
            simp only [Act.put, List.setIfInBounds_toArray, List.set]
            refine takeH (i := 11) (d := some 26) (v := ?_) rfl rfl (by kernel_rfl) (by kernel_rfl) (by kernel_rfl) (fun _ _ _ h => h) (by rfl) ?_ (by assumption) ?_
            rotate_left 1
            · intro w hSw; (try dsimp only at hSw); go_simp; try with_reducible rfl
            simp only [Act.put, List.setIfInBounds_toArray, List.set]
            refine takeH (i := 12) (d := some 27) (v := ?_) rfl rfl (by kernel_rfl) (by kernel_rfl) (by kernel_rfl) (fun _ _ _ h => h) (by rfl) ?_ (by assumption) ?_
            rotate_left 1
            · intro w hSw; (try dsimp only at hSw); go_simp; try with_reducible rfl
            simp only [Act.put, List.setIfInBounds_toArray, List.set]
            refine takeH (i := 13) (d := some 28) (v := ?_) rfl rfl (by kernel_rfl) (by kernel_rfl) (by kernel_rfl) (fun _ _ _ h => h) (by rfl) ?_ (by assumption) ?_
            rotate_left 1
            · intro w hSw; (try dsimp only at hSw); go_simp; try with_reducible rfl
            simp only [Act.put, List.setIfInBounds_toArray, List.set]
            refine skipH (i := 14) (d := some 29) rfl rfl (by kernel_rfl) (by kernel_rfl) (by kernel_rfl) (fun _ _ _ h => h) (by rfl) (by assumption) ?_
            simp only [Act.put, List.setIfInBounds_toArray, List.set]
            refine skipH (i := 15) (d := some 30) rfl rfl (by kernel_rfl) (by kernel_rfl) (by kernel_rfl) (fun _ _ _ h => h) (by rfl) (by assumption) ?_
            simp only [Act.put, List.setIfInBounds_toArray, List.set]
            refine skipH (i := 16) (d := some 31) rfl rfl (by kernel_rfl) (by kernel_rfl) (by kernel_rfl) (fun _ _ _ h => h) (by rfl) (by assumption) ?_
            simp only [Act.put, List.setIfInBounds_toArray, List.set]
            refine skipH (i := 17) (d := some 32) rfl rfl (by kernel_rfl) (by kernel_rfl) (by kernel_rfl) (fun _ _ _ h => h) (by rfl) (by assumption) ?_
            simp only [Act.put, List.setIfInBounds_toArray, List.set]
            refine skipH (i := 18) (d := some 33) rfl rfl (by kernel_rfl) (by kernel_rfl) (by kernel_rfl) (fun _ _ _ h => h) (by rfl) (by assumption) ?_
            simp only [Act.put, List.setIfInBounds_toArray, List.set]
            refine skipH (i := 19) (d := some 34) rfl rfl (by kernel_rfl) (by kernel_rfl) (by kernel_rfl) (fun _ _ _ h => h) (by rfl) (by assumption) ?_
            simp only [Act.put, List.setIfInBounds_toArray, List.set]
            refine skipH (i := 20) (d := some 35) rfl rfl (by kernel_rfl) (by kernel_rfl) (by kernel_rfl) (fun _ _ _ h => h) (by rfl) (by assumption) ?_
            simp only [Act.put, List.setIfInBounds_toArray, List.set]
            refine skipH (i := 21) (d := some 36) rfl rfl (by kernel_rfl) (by kernel_rfl) (by kernel_rfl) (fun _ _ _ h => h) (by rfl) (by assumption) ?_
            simp only [Act.put, List.setIfInBounds_toArray, List.set]
            refine skipH (i := 22) (d := some 37) rfl rfl (by kernel_rfl) (by kernel_rfl) (by kernel_rfl) (fun _ _ _ h => h) (by rfl) (by assumption) ?_
            simp only [Act.put, List.setIfInBounds_toArray, List.set]
            refine takeH (i := 23) (d := some 38) (v := ?_) rfl rfl (by kernel_rfl) (by kernel_rfl) (by kernel_rfl) (fun _ _ _ h => h) (by rfl) ?_ (by assumption) ?_
            rotate_left 1
            · intro w hSw; (try dsimp only at hSw); go_simp; try with_reducible rfl
            simp only [Act.put, List.setIfInBounds_toArray, List.set]
            refine takeH (i := 24) (d := some 39) (v := ?_) rfl rfl (by kernel_rfl) (by kernel_rfl) (by kernel_rfl) (fun _ _ _ h => h) (by rfl) ?_ (by assumption) ?_
            rotate_left 1
            · intro w hSw; (try dsimp only at hSw); go_simp; try with_reducible rfl
            simp only [Act.put, List.setIfInBounds_toArray, List.set]
            refine wpAnyH_done (by kernel_rfl) ?_ _
            have HBW := Lib.hid hbw
            have hm5 : w.heap.size ≤ w5.heap.size := hbw.size
            clear hbw hb5
            go_wp2
            go_loopw [5, 43] (fun lv i wr => ∃ (j : Nat) (last : Int), j ≤ m2 ∧ i = .int .i64 j ∧ lv = .int .i64 last ∧ Below w.heap.size w wr ∧ validF C = (edsOk last (x.eds.drop j) && validGo (prevN C (k + 1)) (C.drop (k + 1)))) (fun _ i _ => m2 - (intOf i).toNat)
            case atStart => exact ⟨0, -1, Nat.zero_le _, rfl, rfl, HBW.out, HG.out⟩
            case round =>
              obtain ⟨j, last, hj, rfl, rfl, hbr, hvr⟩ := hrel
              by_cases hjm : j < m2
              · obtain ⟨e, he⟩ : ∃ e, x.eds[j]? = some e := ⟨x.eds[j]'(by have := HM2.out; omega), List.getElem?_eq_getElem _⟩
                rcases HEC.out with h | ⟨b2, o2, rfl, hlt2, hcs2⟩
                · rw [h] at he; simp at he
                have hef := (HEF.out e (List.mem_of_getElem? he)).2.2.2.2
                rw [edsOk_drop he] at hvr
                obtain ⟨e1, e2, e3⟩ := hcs2 j e he
                have g1 := cell_later hbr e1
                have g3 := cell_later hbr e2
                have g4 := cell_later hbr e3
                have hlt3 : b2 < wr.heap.size := Nat.lt_of_lt_of_le hlt2 hbr.size
                have hAe : ∀ cs, Below w.heap.size w (wr.alloc (.cells cs 46)) := fun cs => hbr.alloc hbr.size _
                have HVR := Lib.hid hvr
                have HBR := Lib.hid hbr
                have HAE := Lib.hid hAe
                clear hvr hbr hcs2 e1 e2 e3 he hlt2 hAe
                cases hn : nextF e last with
                | false =>
                  have HF := Lib.hid (show validF C = false by rw [HVR.out, hn]; rfl)
                  have hnx := fun W => next_any e last W
                  rw [hn] at hnx
                  have HNX := Lib.hid hnx
                  clear hnx hn
                  go_wp2_with (first | (go_at_call 30; refine (HNX.out _).mono ?_; rintro e6 w6 ⟨rfl, hb6⟩) | go_in)
                  go_ret
                  exact ⟨by rw [HF.out]; rfl, (HAE.out _).trans (hb6.mono (HAE.out _).size)⟩
                | true =>
                  have hnx := fun W => next_any e last W
                  rw [hn] at hnx
                  have hli := fun W => lines_strs e.tx (by omega) W
                  have HNX := Lib.hid hnx
                  have HLI := Lib.hid hli
                  obtain ⟨n9, hn9⟩ : ∃ n9, (linesOf e.tx).length = n9 := ⟨_, rfl⟩
                  by_cases h9 : n9 ≤ 65536
                  · have HG9 := Lib.hid (show validF C = (edsOk e.tt (x.eds.drop (j + 1)) && validGo (prevN C (k + 1)) (C.drop (k + 1))) by rw [HVR.out, hn, hn9]; simp [h9])
                    have g9 : ¬ (65536 : Int) < (n9 : Int) := by omega
                    have HN9 := Lib.hid hn9
                    clear hnx hn hli hn9
                    go_wp2_with (first
                      | (go_at_call 30; refine (HNX.out _).mono ?_; rintro e6 w6 ⟨rfl, hb6⟩
                         have hbx := (HAE.out _).trans (hb6.mono (HAE.out _).size)
                         have q1 : w6.cell? ⟨wr.heap.size, 1, none⟩ = some (.int .i64 e.tt) := (hb6.cell (p := ⟨wr.heap.size, 1, none⟩) (by simp)).trans (box_cell _ _ _ _ _ rfl)
                         have q2 : w6.cell? ⟨wr.heap.size, 2, none⟩ = some (.string e.tx) := (hb6.cell (p := ⟨wr.heap.size, 2, none⟩) (by simp)).trans (box_cell _ _ _ _ _ rfl)
                         have hs6 : wr.heap.size < w6.heap.size := by have := hb6.size; rw [World.size_alloc] at this; omega)
                      | (go_at_call 20; refine (HLI.out _).mono ?_; rintro e7 w7 ⟨a7, c7, rfl, _, hb7⟩
                         have q3 : w7.cell? ⟨wr.heap.size, 1, none⟩ = some (.int .i64 e.tt) := (hb7.cell (p := ⟨wr.heap.size, 1, none⟩) hs6).trans q1
                         rw [HN9.out])
                      | go_in)
                    go_roundw
                    case rel => exact ⟨j + 1, e.tt, by omega, by go_num, rfl, hbx.trans (hb7.mono hbx.size), HG9.out⟩
                    case measure => simp [intOf]; omega
                  · have HF := Lib.hid (show validF C = false by rw [HVR.out, hn9]; simp [h9])
                    have g9 : (65536 : Int) < (n9 : Int) := by omega
                    have HN9 := Lib.hid hn9
                    clear hnx hn hli hn9
                    go_wp2_with (first
                      | (go_at_call 30; refine (HNX.out _).mono ?_; rintro e6 w6 ⟨rfl, hb6⟩
                         have hbx := (HAE.out _).trans (hb6.mono (HAE.out _).size)
                         have q1 : w6.cell? ⟨wr.heap.size, 1, none⟩ = some (.int .i64 e.tt) := (hb6.cell (p := ⟨wr.heap.size, 1, none⟩) (by simp)).trans (box_cell _ _ _ _ _ rfl)
                         have q2 : w6.cell? ⟨wr.heap.size, 2, none⟩ = some (.string e.tx) := (hb6.cell (p := ⟨wr.heap.size, 2, none⟩) (by simp)).trans (box_cell _ _ _ _ _ rfl))
                      | (go_at_call 20; refine (HLI.out _).mono ?_; rintro e7 w7 ⟨a7, c7, rfl, _, hb7⟩
                         rw [HN9.out])
                      | go_in)
                    go_ret
                    exact ⟨by rw [HF.out]; rfl, hbx.trans (hb7.mono hbx.size)⟩
              · obtain rfl : j = m2 := by omega
                have hd : x.eds.drop j = [] := List.drop_eq_nil_of_le (by have := HM2.out; omega)
                rw [hd] at hvr
                have HVR := Lib.hid hvr
                clear hvr hd
                go_wp2
                go_roundw
                case rel => exact ⟨k + 1, by omega, by go_num, hbr, by rw [HVR.out]; rfl⟩
                case measure => simp [intOf]; omega
          · obtain ⟨x', hx'⟩ : ∃ x', C[k - 1]? = some x' := ⟨C[k - 1]'(by have := HM.out; omega), List.getElem?_eq_getElem _⟩
            obtain ⟨q, hq⟩ : ∃ q, x'.name = q := ⟨_, rfl⟩
            have hpn : prevN C k = some q := by unfold prevN; rw [if_neg hk0, hx', ← hq]; rfl
            have cq := cell_later HB.out (HCS.out (k - 1) x' hx').1
            rw [hq] at cq
            have y2 : (wr.alloc (.cells #[.string nm, .slice a2 m2 cap2] 44)).drew.cell? ⟨b, o + (k - 1) * 2, none⟩ = some (.string q) := by rw [World.cell?_drew, World.cell?_alloc_past _ _ _ (by exact hltr)]; exact cq
            have gk : 0 < k := by omega
            have gkm : k - 1 < m := by omega
            have gw : IntKind.i64.wrap ((k : Int) - 1) = ((k - 1 : Nat) : Int) := by rw [IntKind.wrap_i64]; omega
            have hho : headOk (prevN C k) x = !leB nm q := by unfold headOk; rw [HM2.out, HNM.out, hp, hpn]; simp [h2]
            cases hle : leB nm q with
            | true =>
              have HF := Lib.hid (show validF C = false by rw [HV.out, hho, hle]; rfl)
              have hrl : ∀ w, Sem.run Tryd.prog (binOp BinOp.leq 9 (Value.string nm) (Value.string q)) w = .ok (.bool true) w := fun w => by rw [run_leq, hle]
              clear hp hho hpn hx' hq hle
              go_wp2
              refine wp_region_held_drew (S := fun w' : World => w'.cell? ⟨wr.heap.size, 0, none⟩ = some (.string nm) ∧ w'.cell? ⟨wr.heap.size, 1, none⟩ = some (.slice a2 m2 cap2) ∧ w'.cell? ⟨b, o + (k - 1) * 2, none⟩ = some (.string q)) (by kernel_rfl) ⟨y0, y1, y2⟩ (fun hHeld => ?_)
              refine takeH (i := 0) (d := some 15) (v := ?_) rfl rfl (by kernel_rfl) (by kernel_rfl) (by kernel_rfl) (fun _ _ _ h => h) (by rfl) ?_ (by assumption) ?_
              rotate_left 1
              · intro w hSw; (try dsimp only at hSw); go_simp; try with_reducible rfl
              simp only [Act.put, List.setIfInBounds_toArray, List.set]
              refine takeH (i := 1) (d := some 16) (v := ?_) rfl rfl (by kernel_rfl) (by kernel_rfl) (by kernel_rfl) (fun _ _ _ h => h) (by rfl) ?_ (by assumption) ?_
              rotate_left 1
              · intro w hSw; (try dsimp only at hSw); go_simp; try with_reducible rfl
              simp only [Act.put, List.setIfInBounds_toArray, List.set]
              refine wpAnyH_ready (rs := [2]) (by kernel_rfl) (by simp) ?_
              refine AllReadyH.cons rfl (fun K hK => ?_) AllReadyH.nil
              go_simp
              go_at_call 26
              refine (HPATH.out _ (below_drew (HA.out _))).mono ?_
              rintro e5 w5 ⟨rfl, hb5⟩
              have z0 := hb5.cell (p := ⟨wr.heap.size, 0, none⟩) (by simp)
              have z1 := hb5.cell (p := ⟨wr.heap.size, 1, none⟩) (by simp)
              rw [y0] at z0
              rw [y1] at z1
              have z2 := hb5.cell (p := ⟨b, o + (k - 1) * 2, none⟩) (Nat.lt_of_lt_of_le (show b < wr.heap.size from hltr) (by simp))
              rw [y2] at z2
              have hbx : Below wr.heap.size wr w5 := (below_drew (HA.out _)).trans (hb5.mono (HA.out _).size)
              have hbw : Below w.heap.size w w5 := HB.out.trans (hbx.mono HB.out.size)
              go_wp2_with fail
              refine hK.out _ _ ⟨z0, z1, z2⟩ (fun hHeld => ?_)
              clear hK K
              refine takeH (i := 3) (d := some 18) (v := ?_) rfl rfl (by kernel_rfl) (by kernel_rfl) (by kernel_rfl) (fun _ _ _ h => h) (by rfl) ?_ (by assumption) ?_
              rotate_left 1
              · intro w hSw; (try dsimp only at hSw); go_simp; try with_reducible rfl
              simp only [Act.put, List.setIfInBounds_toArray, List.set]
              refine takeH (i := 4) (d := some 19) (v := ?_) rfl rfl (by kernel_rfl) (by kernel_rfl) (by kernel_rfl) (fun _ _ _ h => h) (by rfl) ?_ (by assumption) ?_
              rotate_left 1
              · intro w hSw; (try dsimp only at hSw); go_simp; try with_reducible rfl
              simp only [Act.put, List.setIfInBounds_toArray, List.set]
              refine takeH (i := 5) (d := some 20) (v := ?_) rfl rfl (by kernel_rfl) (by kernel_rfl) (by kernel_rfl) (fun _ _ _ h => h) (by rfl) ?_ (by assumption) ?_
              rotate_left 1
              · intro w hSw; (try dsimp only at hSw); go_simp; try with_reducible rfl
              simp only [Act.put, List.setIfInBounds_toArray, List.set]
              refine takeH (i := 6) (d := some 21) (v := ?_) rfl rfl (by kernel_rfl) (by kernel_rfl) (by kernel_rfl) (fun _ _ _ h => h) (by rfl) ?_ (by assumption) ?_
              rotate_left 1
              · intro w hSw; (try dsimp only at hSw); go_simp; try with_reducible rfl
              simp only [Act.put, List.setIfInBounds_toArray, List.set]
              refine takeH (i := 7) (d := some 22) (v := ?_) rfl rfl (by kernel_rfl) (by kernel_rfl) (by kernel_rfl) (fun _ _ _ h => h) (by rfl) ?_ (by assumption) ?_
              rotate_left 1
              · intro w hSw; (try dsimp only at hSw); go_simp; try with_reducible rfl
              simp only [Act.put, List.setIfInBounds_toArray, List.set]
              refine takeH (i := 8) (d := some 23) (v := ?_) rfl rfl (by kernel_rfl) (by kernel_rfl) (by kernel_rfl) (fun _ _ _ h => h) (by rfl) ?_ (by assumption) ?_
              rotate_left 1
              · intro w hSw; (try dsimp only at hSw); go_simp; try with_reducible rfl
              simp only [Act.put, List.setIfInBounds_toArray, List.set]
              refine takeH (i := 9) (d := some 24) (v := ?_) rfl rfl (by kernel_rfl) (by kernel_rfl) (by kernel_rfl) (fun _ _ _ h => h) (by rfl) ?_ (by assumption) ?_
              rotate_left 1
              · intro w hSw; (try dsimp only at hSw); go_simp; try with_reducible rfl
              simp only [Act.put, List.setIfInBounds_toArray, List.set]
              refine takeH (i := 10) (d := some 25) (v := ?_) rfl rfl (by kernel_rfl) (by kernel_rfl) (by kernel_rfl) (fun _ _ _ h => h) (by rfl) ?_ (by assumption) ?_
              rotate_left 1
              · intro w hSw; (try dsimp only at hSw); go_simp; try with_reducible rfl
              simp only [Act.put, List.setIfInBounds_toArray, List.set]
              refine takeH (i := 11) (d := some 26) (v := ?_) rfl rfl (by kernel_rfl) (by kernel_rfl) (by kernel_rfl) (fun _ _ _ h => h) (by rfl) ?_ (by assumption) ?_
              rotate_left 1
              · intro w hSw; (try dsimp only at hSw); go_simp; try with_reducible rfl
              simp only [Act.put, List.setIfInBounds_toArray, List.set]
              refine takeH (i := 12) (d := some 27) (v := ?_) rfl rfl (by kernel_rfl) (by kernel_rfl) (by kernel_rfl) (fun _ _ _ h => h) (by rfl) ?_ (by assumption) ?_
              rotate_left 1
              · intro w hSw; (try dsimp only at hSw); go_simp; try with_reducible rfl
              simp only [Act.put, List.setIfInBounds_toArray, List.set]
              refine takeH (i := 13) (d := some 28) (v := ?_) rfl rfl (by kernel_rfl) (by kernel_rfl) (by kernel_rfl) (fun _ _ _ h => h) (by rfl) ?_ (by assumption) ?_
              rotate_left 1
              · intro w hSw; (try dsimp only at hSw); go_simp; try with_reducible rfl
              simp only [Act.put, List.setIfInBounds_toArray, List.set]
              refine takeH (i := 14) (d := some 29) (v := ?_) rfl rfl (by kernel_rfl) (by kernel_rfl) (by kernel_rfl) (fun _ _ _ h => h) (by rfl) ?_ (by assumption) ?_
              rotate_left 1
              · intro w hSw; (try dsimp only at hSw); go_simp; try with_reducible rfl
              simp only [Act.put, List.setIfInBounds_toArray, List.set]
              refine takeH (i := 15) (d := some 30) (v := ?_) rfl rfl (by kernel_rfl) (by kernel_rfl) (by kernel_rfl) (fun _ _ _ h => h) (by rfl) ?_ (by assumption) ?_
              rotate_left 1
              · intro w hSw; (try dsimp only at hSw); go_simp; try with_reducible rfl
              simp only [Act.put, List.setIfInBounds_toArray, List.set]
              refine takeH (i := 16) (d := some 31) (v := ?_) rfl rfl (by kernel_rfl) (by kernel_rfl) (by kernel_rfl) (fun _ _ _ h => h) (by rfl) ?_ (by assumption) ?_
              rotate_left 1
              · intro w hSw; (try dsimp only at hSw); go_simp; try with_reducible rfl
              simp only [Act.put, List.setIfInBounds_toArray, List.set]
              refine takeH (i := 17) (d := some 32) (v := ?_) rfl rfl (by kernel_rfl) (by kernel_rfl) (by kernel_rfl) (fun _ _ _ h => h) (by rfl) ?_ (by assumption) ?_
              rotate_left 1
              · intro w hSw; (try dsimp only at hSw); go_simp; try with_reducible rfl
              simp only [Act.put, List.setIfInBounds_toArray, List.set]
              refine takeH (i := 18) (d := some 33) (v := ?_) rfl rfl (by kernel_rfl) (by kernel_rfl) (by kernel_rfl) (fun _ _ _ h => h) (by rfl) ?_ (by assumption) ?_
              rotate_left 1
              · intro w hSw; (try dsimp only at hSw); go_simp; try with_reducible rfl
              simp only [Act.put, List.setIfInBounds_toArray, List.set]
              refine takeH (i := 19) (d := some 34) (v := ?_) rfl rfl (by kernel_rfl) (by kernel_rfl) (by kernel_rfl) (fun _ _ _ h => h) (by rfl) ?_ (by assumption) ?_
              rotate_left 1
              · intro w hSw; (try dsimp only at hSw); go_simp; try with_reducible rfl
              simp only [Act.put, List.setIfInBounds_toArray, List.set]
              refine takeH (i := 20) (d := some 35) (v := ?_) rfl rfl (by kernel_rfl) (by kernel_rfl) (by kernel_rfl) (fun _ _ _ h => h) (by rfl) ?_ (by assumption) ?_
              rotate_left 1
              · intro w hSw; (try dsimp only at hSw); go_simp; try with_reducible rfl
              simp only [Act.put, List.setIfInBounds_toArray, List.set]
              refine takeH (i := 21) (d := some 36) (v := ?_) rfl rfl (by kernel_rfl) (by kernel_rfl) (by kernel_rfl) (fun _ _ _ h => h) (by rfl) ?_ (by assumption) ?_
              rotate_left 1
              · intro w hSw; (try dsimp only at hSw); go_simp; try with_reducible rfl
              simp only [Act.put, List.setIfInBounds_toArray, List.set]
              refine takeH (i := 22) (d := some 37) (v := ?_) rfl rfl (by kernel_rfl) (by kernel_rfl) (by kernel_rfl) (fun _ _ _ h => h) (by rfl) ?_ (by assumption) ?_
              rotate_left 1
              · intro w hSw; (try dsimp only at hSw); go_simp; try with_reducible rfl
              simp only [Act.put, List.setIfInBounds_toArray, List.set]
              refine takeH (i := 23) (d := some 38) (v := ?_) rfl rfl (by kernel_rfl) (by kernel_rfl) (by kernel_rfl) (fun _ _ _ h => h) (by rfl) ?_ (by assumption) ?_
              rotate_left 1
              · intro w hSw; (try dsimp only at hSw); go_simp; try with_reducible rfl
              simp only [Act.put, List.setIfInBounds_toArray, List.set]
              refine takeH (i := 24) (d := some 39) (v := ?_) rfl rfl (by kernel_rfl) (by kernel_rfl) (by kernel_rfl) (fun _ _ _ h => h) (by rfl) ?_ (by assumption) ?_
              rotate_left 1
              · intro w hSw; (try dsimp only at hSw); go_simp; try with_reducible rfl
              simp only [Act.put, List.setIfInBounds_toArray, List.set]
              refine wpAnyH_done (by kernel_rfl) ?_ _
              go_wp2
              go_ret
              exact ⟨by rw [HF.out]; rfl, hbw⟩
            | false =>
              have HG := Lib.hid (show validF C = (edsOk (-1) (x.eds.drop 0) && validGo (prevN C (k + 1)) (C.drop (k + 1))) by rw [HV.out, hho, hle]; rfl)
              have hrl : ∀ w, Sem.run Tryd.prog (binOp BinOp.leq 9 (Value.string nm) (Value.string q)) w = .ok (.bool false) w := fun w => by rw [run_leq, hle]
              clear hp hho hpn hx' hq hle
              go_wp2
              refine wp_region_held_drew (S := fun w' : World => w'.cell? ⟨wr.heap.size, 0, none⟩ = some (.string nm) ∧ w'.cell? ⟨wr.heap.size, 1, none⟩ = some (.slice a2 m2 cap2) ∧ w'.cell? ⟨b, o + (k - 1) * 2, none⟩ = some (.string q)) (by kernel_rfl) ⟨y0, y1, y2⟩ (fun hHeld => ?_)
              refine takeH (i := 0) (d := some 15) (v := ?_) rfl rfl (by kernel_rfl) (by kernel_rfl) (by kernel_rfl) (fun _ _ _ h => h) (by rfl) ?_ (by assumption) ?_
              rotate_left 1
              · intro w hSw; (try dsimp only at hSw); go_simp; try with_reducible rfl
              simp only [Act.put, List.setIfInBounds_toArray, List.set]
              refine takeH (i := 1) (d := some 16) (v := ?_) rfl rfl (by kernel_rfl) (by kernel_rfl) (by kernel_rfl) (fun _ _ _ h => h) (by rfl) ?_ (by assumption) ?_
              rotate_left 1
              · intro w hSw; (try dsimp only at hSw); go_simp; try with_reducible rfl
              simp only [Act.put, List.setIfInBounds_toArray, List.set]
              refine wpAnyH_ready (rs := [2]) (by kernel_rfl) (by simp) ?_
              refine AllReadyH.cons rfl (fun K hK => ?_) AllReadyH.nil
              go_simp
              go_at_call 26
              refine (HPATH.out _ (below_drew (HA.out _))).mono ?_
              rintro e5 w5 ⟨rfl, hb5⟩
              have z0 := hb5.cell (p := ⟨wr.heap.size, 0, none⟩) (by simp)
              have z1 := hb5.cell (p := ⟨wr.heap.size, 1, none⟩) (by simp)
              rw [y0] at z0
              rw [y1] at z1
              have z2 := hb5.cell (p := ⟨b, o + (k - 1) * 2, none⟩) (Nat.lt_of_lt_of_le (show b < wr.heap.size from hltr) (by simp))
              rw [y2] at z2
              have hbx : Below wr.heap.size wr w5 := (below_drew (HA.out _)).trans (hb5.mono (HA.out _).size)
              have hbw : Below w.heap.size w w5 := HB.out.trans (hbx.mono HB.out.size)
              go_wp2_with fail
              refine hK.out _ _ ⟨z0, z1, z2⟩ (fun hHeld => ?_)
              clear hK K
              refine takeH (i := 3) (d := some 18) (v := ?_) rfl rfl (by kernel_rfl) (by kernel_rfl) (by kernel_rfl) (fun _ _ _ h => h) (by rfl) ?_ (by assumption) ?_
              rotate_left 1
              · intro w hSw; (try dsimp only at hSw); go_simp; try with_reducible rfl
              simp only [Act.put, List.setIfInBounds_toArray, List.set]
              refine takeH (i := 4) (d := some 19) (v := ?_) rfl rfl (by kernel_rfl) (by kernel_rfl) (by kernel_rfl) (fun _ _ _ h => h) (by rfl) ?_ (by assumption) ?_
              rotate_left 1
              · intro w hSw; (try dsimp only at hSw); go_simp; try with_reducible rfl
              simp only [Act.put, List.setIfInBounds_toArray, List.set]
              refine takeH (i := 5) (d := some 20) (v := ?_) rfl rfl (by kernel_rfl) (by kernel_rfl) (by kernel_rfl) (fun _ _ _ h => h) (by rfl) ?_ (by assumption) ?_
              rotate_left 1
              · intro w hSw; (try dsimp only at hSw); go_simp; try with_reducible rfl
              simp only [Act.put, List.setIfInBounds_toArray, List.set]
              refine takeH (i := 6) (d := some 21) (v := ?_) rfl rfl (by kernel_rfl) (by kernel_rfl) (by kernel_rfl) (fun _ _ _ h => h) (by rfl) ?_ (by assumption) ?_
              rotate_left 1
              · intro w hSw; (try dsimp only at hSw); go_simp; try with_reducible rfl
              simp only [Act.put, List.setIfInBounds_toArray, List.set]
              refine takeH (i := 7) (d := some 22) (v := ?_) rfl rfl (by kernel_rfl) (by kernel_rfl) (by kernel_rfl) (fun _ _ _ h => h) (by rfl) ?_ (by assumption) ?_
              rotate_left 1
              · intro w hSw; (try dsimp only at hSw); go_simp; try with_reducible rfl
              simp only [Act.put, List.setIfInBounds_toArray, List.set]
              refine takeH (i := 8) (d := some 23) (v := ?_) rfl rfl (by kernel_rfl) (by kernel_rfl) (by kernel_rfl) (fun _ _ _ h => h) (by rfl) ?_ (by assumption) ?_
              rotate_left 1
              · intro w hSw; (try dsimp only at hSw); go_simp; try with_reducible rfl
              simp only [Act.put, List.setIfInBounds_toArray, List.set]
              refine takeH (i := 9) (d := some 24) (v := ?_) rfl rfl (by kernel_rfl) (by kernel_rfl) (by kernel_rfl) (fun _ _ _ h => h) (by rfl) ?_ (by assumption) ?_
              rotate_left 1
              · intro w hSw; (try dsimp only at hSw); go_simp; try with_reducible rfl
              simp only [Act.put, List.setIfInBounds_toArray, List.set]
              refine takeH (i := 10) (d := some 25) (v := ?_) rfl rfl (by kernel_rfl) (by kernel_rfl) (by kernel_rfl) (fun _ _ _ h => h) (by rfl) ?_ (by assumption) ?_
              rotate_left 1
              · intro w hSw; (try dsimp only at hSw); go_simp; try with_reducible rfl
              simp only [Act.put, List.setIfInBounds_toArray, List.set]
              refine takeH (i := 11) (d := some 26) (v := ?_) rfl rfl (by kernel_rfl) (by kernel_rfl) (by kernel_rfl) (fun _ _ _ h => h) (by rfl) ?_ (by assumption) ?_
              rotate_left 1
              · intro w hSw; (try dsimp only at hSw); go_simp; try with_reducible rfl
              simp only [Act.put, List.setIfInBounds_toArray, List.set]
              refine takeH (i := 12) (d := some 27) (v := ?_) rfl rfl (by kernel_rfl) (by kernel_rfl) (by kernel_rfl) (fun _ _ _ h => h) (by rfl) ?_ (by assumption) ?_
              rotate_left 1
              · intro w hSw; (try dsimp only at hSw); go_simp; try with_reducible rfl
              simp only [Act.put, List.setIfInBounds_toArray, List.set]
              refine takeH (i := 13) (d := some 28) (v := ?_) rfl rfl (by kernel_rfl) (by kernel_rfl) (by kernel_rfl) (fun _ _ _ h => h) (by rfl) ?_ (by assumption) ?_
              rotate_left 1
              · intro w hSw; (try dsimp only at hSw); go_simp; try with_reducible rfl
              simp only [Act.put, List.setIfInBounds_toArray, List.set]
              refine takeH (i := 14) (d := some 29) (v := ?_) rfl rfl (by kernel_rfl) (by kernel_rfl) (by kernel_rfl) (fun _ _ _ h => h) (by rfl) ?_ (by assumption) ?_
              rotate_left 1
              · intro w hSw; (try dsimp only at hSw); go_simp; try with_reducible rfl
              simp only [Act.put, List.setIfInBounds_toArray, List.set]
              refine takeH (i := 15) (d := some 30) (v := ?_) rfl rfl (by kernel_rfl) (by kernel_rfl) (by kernel_rfl) (fun _ _ _ h => h) (by rfl) ?_ (by assumption) ?_
              rotate_left 1
              · intro w hSw; (try dsimp only at hSw); go_simp; try with_reducible rfl
              simp only [Act.put, List.setIfInBounds_toArray, List.set]
              refine takeH (i := 16) (d := some 31) (v := ?_) rfl rfl (by kernel_rfl) (by kernel_rfl) (by kernel_rfl) (fun _ _ _ h => h) (by rfl) ?_ (by assumption) ?_
              rotate_left 1
              · intro w hSw; (try dsimp only at hSw); go_simp; try with_reducible rfl
              simp only [Act.put, List.setIfInBounds_toArray, List.set]
              refine takeH (i := 17) (d := some 32) (v := ?_) rfl rfl (by kernel_rfl) (by kernel_rfl) (by kernel_rfl) (fun _ _ _ h => h) (by rfl) ?_ (by assumption) ?_
              rotate_left 1
              · intro w hSw; (try dsimp only at hSw); go_simp; try with_reducible rfl
              simp only [Act.put, List.setIfInBounds_toArray, List.set]
              refine takeH (i := 18) (d := some 33) (v := ?_) rfl rfl (by kernel_rfl) (by kernel_rfl) (by kernel_rfl) (fun _ _ _ h => h) (by rfl) ?_ (by assumption) ?_
              rotate_left 1
              · intro w hSw; (try dsimp only at hSw); go_simp; try with_reducible rfl
              simp only [Act.put, List.setIfInBounds_toArray, List.set]
              refine takeH (i := 19) (d := some 34) (v := ?_) rfl rfl (by kernel_rfl) (by kernel_rfl) (by kernel_rfl) (fun _ _ _ h => h) (by rfl) ?_ (by assumption) ?_
              rotate_left 1
              · intro w hSw; (try dsimp only at hSw); go_simp; try with_reducible rfl
              simp only [Act.put, List.setIfInBounds_toArray, List.set]
              refine takeH (i := 20) (d := some 35) (v := ?_) rfl rfl (by kernel_rfl) (by kernel_rfl) (by kernel_rfl) (fun _ _ _ h => h) (by rfl) ?_ (by assumption) ?_
              rotate_left 1
              · intro w hSw; (try dsimp only at hSw); go_simp; try with_reducible rfl
              simp only [Act.put, List.setIfInBounds_toArray, List.set]
              refine takeH (i := 21) (d := some 36) (v := ?_) rfl rfl (by kernel_rfl) (by kernel_rfl) (by kernel_rfl) (fun _ _ _ h => h) (by rfl) ?_ (by assumption) ?_
              rotate_left 1
              · intro w hSw; (try dsimp only at hSw); go_simp; try with_reducible rfl
              simp only [Act.put, List.setIfInBounds_toArray, List.set]
              refine takeH (i := 22) (d := some 37) (v := ?_) rfl rfl (by kernel_rfl) (by kernel_rfl) (by kernel_rfl) (fun _ _ _ h => h) (by rfl) ?_ (by assumption) ?_
              rotate_left 1
              · intro w hSw; (try dsimp only at hSw); go_simp; try with_reducible rfl
              simp only [Act.put, List.setIfInBounds_toArray, List.set]
              refine takeH (i := 23) (d := some 38) (v := ?_) rfl rfl (by kernel_rfl) (by kernel_rfl) (by kernel_rfl) (fun _ _ _ h => h) (by rfl) ?_ (by assumption) ?_
              rotate_left 1
              · intro w hSw; (try dsimp only at hSw); go_simp; try with_reducible rfl
              simp only [Act.put, List.setIfInBounds_toArray, List.set]
              refine takeH (i := 24) (d := some 39) (v := ?_) rfl rfl (by kernel_rfl) (by kernel_rfl) (by kernel_rfl) (fun _ _ _ h => h) (by rfl) ?_ (by assumption) ?_
              rotate_left 1
              · intro w hSw; (try dsimp only at hSw); go_simp; try with_reducible rfl
              simp only [Act.put, List.setIfInBounds_toArray, List.set]
              refine wpAnyH_done (by kernel_rfl) ?_ _
              have HBW := Lib.hid hbw
              have hm5 : w.heap.size ≤ w5.heap.size := hbw.size
              clear hbw hb5
              go_wp2
              go_loopw [5, 43] (fun lv i wr => ∃ (j : Nat) (last : Int), j ≤ m2 ∧ i = .int .i64 j ∧ lv = .int .i64 last ∧ Below w.heap.size w wr ∧ validF C = (edsOk last (x.eds.drop j) && validGo (prevN C (k + 1)) (C.drop (k + 1)))) (fun _ i _ => m2 - (intOf i).toNat)
              case atStart => exact ⟨0, -1, Nat.zero_le _, rfl, rfl, HBW.out, HG.out⟩
              case round =>
                obtain ⟨j, last, hj, rfl, rfl, hbr, hvr⟩ := hrel
                by_cases hjm : j < m2
                · obtain ⟨e, he⟩ : ∃ e, x.eds[j]? = some e := ⟨x.eds[j]'(by have := HM2.out; omega), List.getElem?_eq_getElem _⟩
                  rcases HEC.out with h | ⟨b2, o2, rfl, hlt2, hcs2⟩
                  · rw [h] at he; simp at he
                  have hef := (HEF.out e (List.mem_of_getElem? he)).2.2.2.2
                  rw [edsOk_drop he] at hvr
                  obtain ⟨e1, e2, e3⟩ := hcs2 j e he
                  have g1 := cell_later hbr e1
                  have g3 := cell_later hbr e2
                  have g4 := cell_later hbr e3
                  have hlt3 : b2 < wr.heap.size := Nat.lt_of_lt_of_le hlt2 hbr.size
                  have hAe : ∀ cs, Below w.heap.size w (wr.alloc (.cells cs 46)) := fun cs => hbr.alloc hbr.size _
                  have HVR := Lib.hid hvr
                  have HBR := Lib.hid hbr
                  have HAE := Lib.hid hAe
                  clear hvr hbr hcs2 e1 e2 e3 he hlt2 hAe
                  cases hn : nextF e last with
                  | false =>
                    have HF := Lib.hid (show validF C = false by rw [HVR.out, hn]; rfl)
                    have hnx := fun W => next_any e last W
                    rw [hn] at hnx
                    have HNX := Lib.hid hnx
                    clear hnx hn
                    go_wp2_with (first | (go_at_call 30; refine (HNX.out _).mono ?_; rintro e6 w6 ⟨rfl, hb6⟩) | go_in)
                    go_ret
                    exact ⟨by rw [HF.out]; rfl, (HAE.out _).trans (hb6.mono (HAE.out _).size)⟩
                  | true =>
                    have hnx := fun W => next_any e last W
                    rw [hn] at hnx
                    have hli := fun W => lines_strs e.tx (by omega) W
                    have HNX := Lib.hid hnx
                    have HLI := Lib.hid hli
                    obtain ⟨n9, hn9⟩ : ∃ n9, (linesOf e.tx).length = n9 := ⟨_, rfl⟩
                    by_cases h9 : n9 ≤ 65536
                    · have HG9 := Lib.hid (show validF C = (edsOk e.tt (x.eds.drop (j + 1)) && validGo (prevN C (k + 1)) (C.drop (k + 1))) by rw [HVR.out, hn, hn9]; simp [h9])
                      have g9 : ¬ (65536 : Int) < (n9 : Int) := by omega
                      have HN9 := Lib.hid hn9
                      clear hnx hn hli hn9
                      go_wp2_with (first
                        | (go_at_call 30; refine (HNX.out _).mono ?_; rintro e6 w6 ⟨rfl, hb6⟩
                           have hbx := (HAE.out _).trans (hb6.mono (HAE.out _).size)
                           have q1 : w6.cell? ⟨wr.heap.size, 1, none⟩ = some (.int .i64 e.tt) := (hb6.cell (p := ⟨wr.heap.size, 1, none⟩) (by simp)).trans (box_cell _ _ _ _ _ rfl)
                           have q2 : w6.cell? ⟨wr.heap.size, 2, none⟩ = some (.string e.tx) := (hb6.cell (p := ⟨wr.heap.size, 2, none⟩) (by simp)).trans (box_cell _ _ _ _ _ rfl)
                           have hs6 : wr.heap.size < w6.heap.size := by have := hb6.size; rw [World.size_alloc] at this; omega)
                        | (go_at_call 20; refine (HLI.out _).mono ?_; rintro e7 w7 ⟨a7, c7, rfl, _, hb7⟩
                           have q3 : w7.cell? ⟨wr.heap.size, 1, none⟩ = some (.int .i64 e.tt) := (hb7.cell (p := ⟨wr.heap.size, 1, none⟩) hs6).trans q1
                           rw [HN9.out])
                        | go_in)
                      go_roundw
                      case rel => exact ⟨j + 1, e.tt, by omega, by go_num, rfl, hbx.trans (hb7.mono hbx.size), HG9.out⟩
                      case measure => simp [intOf]; omega
                    · have HF := Lib.hid (show validF C = false by rw [HVR.out, hn9]; simp [h9])
                      have g9 : (65536 : Int) < (n9 : Int) := by omega
                      have HN9 := Lib.hid hn9
                      clear hnx hn hli hn9
                      go_wp2_with (first
                        | (go_at_call 30; refine (HNX.out _).mono ?_; rintro e6 w6 ⟨rfl, hb6⟩
                           have hbx := (HAE.out _).trans (hb6.mono (HAE.out _).size)
                           have q1 : w6.cell? ⟨wr.heap.size, 1, none⟩ = some (.int .i64 e.tt) := (hb6.cell (p := ⟨wr.heap.size, 1, none⟩) (by simp)).trans (box_cell _ _ _ _ _ rfl)
                           have q2 : w6.cell? ⟨wr.heap.size, 2, none⟩ = some (.string e.tx) := (hb6.cell (p := ⟨wr.heap.size, 2, none⟩) (by simp)).trans (box_cell _ _ _ _ _ rfl))
                        | (go_at_call 20; refine (HLI.out _).mono ?_; rintro e7 w7 ⟨a7, c7, rfl, _, hb7⟩
                           rw [HN9.out])
                        | go_in)
                      go_ret
                      exact ⟨by rw [HF.out]; rfl, hbx.trans (hb7.mono hbx.size)⟩
                · obtain rfl : j = m2 := by omega
                  have hd : x.eds.drop j = [] := List.drop_eq_nil_of_le (by have := HM2.out; omega)
                  rw [hd] at hvr
                  have HVR := Lib.hid hvr
                  clear hvr hd
                  go_wp2
                  go_roundw
                  case rel => exact ⟨k + 1, by omega, by go_num, hbr, by rw [HVR.out]; rfl⟩
                  case measure => simp [intOf]; omega
    · obtain rfl : k = m := by omega
      have hd : C.drop k = [] := List.drop_eq_nil_of_le (by have := HM.out; omega)
      rw [hd] at hv
      have HV := Lib.hid hv
      clear hv hd
      go_wp2
      go_ret
      exact ⟨by rw [HV.out]; rfl, hb⟩

end Go.Proofs.YtbodemkmjemdjaaDoor
