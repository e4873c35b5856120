/-
  What twin makes of changes: the same changes, for the reference.
-/
import Derived.Test.YtbodemkmjemdjaaDoorSame
namespace Go.Proofs.YtbodemkmjemdjaaDoor
open Go.RowKit

theorem step_append_own {P : Program} {ops : Array Oper} {o : Oper} {a : Act} {w : World} {K : Act → World → Prop} {Q : Exit → Act → World → Prop} {E : Prop}
    (hg : o.guard = none) (s x : Operand) (t : TypeId) (hop : o.op = Op.call { callee := Callee.builtin Builtin.append, args := #[s, x], argTypes := #[t, t] })
    (base : Nat) (e : TypeId) (i : TypeInfo) (z : Value) (size bytes : Nat) (h1 : P.underlying t = some (.slice e)) (h2 : P.info? e = some i) (h3 : i.zero = some z) (h4 : i.size = size) (h5 : i.bytes = bytes) (h6 : z.cells.size = size) (h7 : 0 < size)
    (v : Value) (k : Nat) (xs : List Value) (hs : a.eval s = v) (hown : w.ownsRow base e size v k xs) (ad : Addr) (m c : Nat) (news : List Value) (hx : a.eval x = .slice (some ad) m c) (hn : news.length = m * size)
    (hc : ∀ j u, news[j]? = some u → w.cell? (ad.add j) = some u) (h1c : ∀ u ∈ news, u.oneCell' = true) (b1 : k + m ≤ maxLen) (b2 : (k + m) * bytes ≤ 140737488355328) (b3 : base ≤ w.heap.size)
    (hK : ∀ v' w', w'.ownsRow base e size v' (k + m) (xs ++ news) → w.grownBy w' v.ownBlock → (v' = .slice none 0 0 ↔ v = .slice none 0 0 ∧ m = 0) → K (a.put o.dst v') w') :
    if Region.wanted o (yielded ops a.tmps) = true then Oper.wp P o a w K Q else E := by
  have hw : Region.wanted o (yielded ops a.tmps) = true := by simp [Region.wanted, hg]
  rw [if_pos hw]
  obtain ⟨v', w', hrun, r1, r2, r3⟩ := run_append_own (P := P) w base t o.type e i z size bytes h1 h2 h3 h4 h5 h6 h7 v k xs hown ad m c news hn hc h1c b1 b2 b3
  unfold Oper.wp
  simp [execOp, hop, resolve, invoke, builtin, hs, hx, hrun, Result.andThen]
  exact hK v' w' r1 r2 r3

theorem info77 : (Tryd.prog.info? 77).map (fun i => (i.zero, i.size, i.bytes)) = some (some (.agg #[.string ⟨#[]⟩, .slice none 0 0]), 2, 40) := by kernel_rfl

set_option maxHeartbeats 4000000 in
set_option maxRecDepth 100000 in
theorem twin_any (v : Value) (C : List Chg) (w : World) (hC : ChgsAt w v C) : Calls Tryd.prog 12 #[v] w fun e w' => ∃ u, e = .returned u ∧ ChgsAt w' u C ∧ Below w.heap.size w w' := by
  obtain ⟨i0, hi, hz0, hz1, hz2⟩ := info_parts info77
  obtain ⟨a1, c1, rfl, hc1, hcm, hE2, hnames, h1⟩ := hC
  obtain ⟨m, hm⟩ : ∃ m, C.length = m := ⟨_, rfl⟩
  rw [hm] at hc1 hE2 ⊢
  have H1 := Lib.hid h1
  have HM := Lib.hid hm
  have HNM := Lib.hid hnames
  clear h1 hm hnames
  go_enter Tryd.func12, Tryd.ntmps12
  go_wp2
  go_loopw [3, 4] (fun sv i wr => ∃ (k : Nat) (xs : List Value) (rv : Value), k ≤ m ∧ i = .int .i64 k ∧ sv = rv ∧ wr.ownsRow w.heap.size 77 2 rv k xs ∧ Below w.heap.size w wr ∧
    (∀ i x, C[i]? = some x → i < k → xs[i * 2]? = some (.string x.name) ∧ ∃ ev, xs[i * 2 + 1]? = some ev ∧ EdsAt w ev x.eds)) (fun _ i _ => m - (intOf i).toNat)
  case atStart => exact ⟨0, [], .slice none 0 0, Nat.zero_le _, rfl, rfl, World.ownsRow_nil _ _ _ _, Below.refl _ _, fun i x _ h => by omega⟩
  case round =>
    obtain ⟨k, xs, rv, hk, rfl, hsv, hr, hb, hxs⟩ := hrel
    have hsv2 := hsv.symm
    clear hsv
    subst hsv2
    by_cases hkm : k < m
    · obtain ⟨x, hx⟩ : ∃ x, C[k]? = some x := ⟨C[k]'(by have := HM.out; omega), List.getElem?_eq_getElem _⟩
      rcases H1.out with h | ⟨b1, o1, rfl, hlt1, hcs1⟩
      · rw [h] at hx; simp at hx
      obtain ⟨d1, ev1, d2, he1⟩ := hcs1 k x hx
      have he0 := he1
      obtain ⟨a3, c3, rfl, _⟩ := he1
      obtain ⟨p, hp⟩ : ∃ p, x.eds.length = p := ⟨_, rfl⟩
      rw [hp] at d2 he0
      have t1 := cell_later (below_drew hb) d1
      have t2 := cell_later (below_drew hb) d2
      have hbn : ∀ cs, Below wr.heap.size wr (wr.drew.alloc (.cells cs 77)) := fun cs => (below_drew (Below.refl _ wr)).alloc (Nat.le_refl _) _
      have s1 := cell_later (hbn #[.string x.name, .slice a3 p c3]) (cell_later hb d1)
      have s2 := cell_later (hbn #[.string x.name, .slice a3 p c3]) (cell_later hb d2)
      have hr2 : (wr.drew.alloc (.cells #[.string x.name, .slice a3 p c3] 77)).ownsRow w.heap.size 77 2 rv k xs := World.ownsRow.alloc (w := wr.drew) hr _
      have hnews : ∀ j u, [Value.string x.name, .slice a3 p c3][j]? = some u → (wr.drew.alloc (.cells #[.string x.name, .slice a3 p c3] 77)).cell? ((⟨wr.heap.size, 0, none⟩ : Addr).add j) = some u := fun j u hj => by
        have e2 : (⟨wr.heap.size, 0, none⟩ : Addr).add j = ⟨wr.heap.size, j, none⟩ := by unfold Addr.add; split <;> simp_all
        rw [e2]
        exact box_cell wr.drew _ _ _ _ (by simpa using hj)
      have hsz : w.heap.size ≤ (wr.drew.alloc (.cells #[.string x.name, .slice a3 p c3] 77)).heap.size := Nat.le_trans hb.size (hbn _).size
      have HR2 := Lib.hid hr2
      have HNEWS := Lib.hid hnews
      have HSZ := Lib.hid hsz
      have HB := Lib.hid hb
      have HBN := Lib.hid (hbn #[.string x.name, .slice a3 p c3])
      have HXS := Lib.hid hxs
      have HX := Lib.hid hx
      have HE0 := Lib.hid he0
      have HRL := Lib.hid hr.1
      have HP := Lib.hid hp
      have D1 := Lib.hid d1
      have D2 := Lib.hid d2
      clear hbn hr2 hnews hsz hb hr hxs hx he0 d1 d2 hcs1 hp
      go_wp2
      refine wp_region_held_drew (S := fun w' : World => w'.cell? ⟨b1, o1 + k * 2, none⟩ = some (.string x.name) ∧ w'.cell? ⟨b1, o1 + k * 2 + 1, none⟩ = some (.slice a3 p c3)) (by kernel_rfl) ⟨t1, t2⟩ (fun hHeld => ?_)
      refine takeH (i := 0) (d := some 11) (v := ?_) rfl rfl (by kernel_rfl) (by kernel_rfl) (by kernel_rfl) (fun _ _ _ h => h) (by rfl) ?_ (by assumption) ?_
      rotate_left 1
      · intro w hSw; (try dsimp only at hSw); go_simp; try with_reducible rfl
      simp only [Act.put, List.setIfInBounds_toArray, List.set]
      refine takeH (i := 1) (d := some 12) (v := ?_) rfl rfl (by kernel_rfl) (by kernel_rfl) (by kernel_rfl) (fun _ _ _ h => h) (by rfl) ?_ (by assumption) ?_
      rotate_left 1
      · intro w hSw; (try dsimp only at hSw); go_simp; try with_reducible rfl
      simp only [Act.put, List.setIfInBounds_toArray, List.set]
      refine takeH (i := 2) (d := some 13) (v := ?_) rfl rfl (by kernel_rfl) (by kernel_rfl) (by kernel_rfl) (fun _ _ _ h => h) (by rfl) ?_ (by assumption) ?_
      rotate_left 1
      · intro w hSw; (try dsimp only at hSw); go_simp; try with_reducible rfl
      simp only [Act.put, List.setIfInBounds_toArray, List.set]
      refine takeH (i := 3) (d := some 14) (v := ?_) rfl rfl (by kernel_rfl) (by kernel_rfl) (by kernel_rfl) (fun _ _ _ h => h) (by rfl) ?_ (by assumption) ?_
      rotate_left 1
      · intro w hSw; (try dsimp only at hSw); go_simp; try with_reducible rfl
      simp only [Act.put, List.setIfInBounds_toArray, List.set]
      refine takeH (i := 4) (d := some 15) (v := ?_) rfl rfl (by kernel_rfl) (by kernel_rfl) (by kernel_rfl) (fun _ _ _ h => h) (by rfl) ?_ (by assumption) ?_
      rotate_left 1
      · intro w hSw; (try dsimp only at hSw); go_simp; try with_reducible rfl
      simp only [Act.put, List.setIfInBounds_toArray, List.set]
      refine takeH (i := 5) (d := some 16) (v := ?_) rfl rfl (by kernel_rfl) (by kernel_rfl) (by kernel_rfl) (fun _ _ _ h => h) (by rfl) ?_ (by assumption) ?_
      rotate_left 1
      · intro w hSw; (try dsimp only at hSw); go_simp; try with_reducible rfl
      simp only [Act.put, List.setIfInBounds_toArray, List.set]
      refine takeH (i := 6) (d := some 17) (v := ?_) rfl rfl (by kernel_rfl) (by kernel_rfl) (by kernel_rfl) (fun _ _ _ h => h) (by rfl) ?_ (by assumption) ?_
      rotate_left 1
      · intro w hSw; (try dsimp only at hSw); go_simp; try with_reducible rfl
      simp only [Act.put, List.setIfInBounds_toArray, List.set]
      refine takeH (i := 7) (d := some 18) (v := ?_) rfl rfl (by kernel_rfl) (by kernel_rfl) (by kernel_rfl) (fun _ _ _ h => h) (by rfl) ?_ (by assumption) ?_
      rotate_left 1
      · intro w hSw; (try dsimp only at hSw); go_simp; try with_reducible rfl
      simp only [Act.put, List.setIfInBounds_toArray, List.set]
      refine takeH (i := 8) (d := some 19) (v := ?_) rfl rfl (by kernel_rfl) (by kernel_rfl) (by kernel_rfl) (fun _ _ _ h => h) (by rfl) ?_ (by assumption) ?_
      rotate_left 1
      · intro w hSw; (try dsimp only at hSw); go_simp; try with_reducible rfl
      simp only [Act.put, List.setIfInBounds_toArray, List.set]
      refine takeH (i := 9) (d := some 20) (v := ?_) rfl rfl (by kernel_rfl) (by kernel_rfl) (by kernel_rfl) (fun _ _ _ h => h) (by rfl) ?_ (by assumption) ?_
      rotate_left 1
      · intro w hSw; (try dsimp only at hSw); go_simp; try with_reducible rfl
      simp only [Act.put, List.setIfInBounds_toArray, List.set]
      refine takeH (i := 10) (d := some 21) (v := ?_) rfl rfl (by kernel_rfl) (by kernel_rfl) (by kernel_rfl) (fun _ _ _ h => h) (by rfl) ?_ (by assumption) ?_
      rotate_left 1
      · intro w hSw; (try dsimp only at hSw); go_simp; try with_reducible rfl
      simp only [Act.put, List.setIfInBounds_toArray, List.set]
      refine takeH (i := 11) (d := some 22) (v := ?_) rfl rfl (by kernel_rfl) (by kernel_rfl) (by kernel_rfl) (fun _ _ _ h => h) (by rfl) ?_ (by assumption) ?_
      rotate_left 1
      · intro w hSw; (try dsimp only at hSw); go_simp; try with_reducible rfl
      simp only [Act.put, List.setIfInBounds_toArray, List.set]
      refine wpAnyH_ready (rs := [12]) (by kernel_rfl) (by simp) ?_
      refine AllReadyH.cons rfl (fun K hK => ?_) AllReadyH.nil
      go_simp
      refine hK.out _ _ ⟨s1, s2⟩ (fun hHeld => ?_)
      clear hK K
      try simp only [Act.put, List.setIfInBounds_toArray, List.set]
      refine wpAnyH_ready (rs := [13]) (by kernel_rfl) (by simp) ?_
      refine AllReadyH.cons rfl (fun K hK => ?_) AllReadyH.nil
      refine step_append_own rfl _ _ 37 rfl w.heap.size 77 i0 (.agg #[.string ⟨#[]⟩, .slice none 0 0]) 2 40 Tryd.underlying37 hi hz0 hz1 hz2 rfl (by decide) rv k xs (by rfl) HR2.out ⟨wr.heap.size, 0, none⟩ 1 1 [.string x.name, .slice a3 p c3] (by rfl) rfl HNEWS.out (by simp [Value.oneCell']) (by unfold maxLen; omega) (by omega) HSZ.out ?_
      intro rv' w2 hown' hgrow _
      have hg0 : (wr.drew.alloc (.cells #[.string x.name, .slice a3 p c3] 77)).grownBy w2 rv.ownBlock := hgrow
      have hb2 : Below w.heap.size w w2 := (HB.out.trans (HBN.out.mono HB.out.size)).grown hg0 HSZ.out (fun j ej => by
        rcases HR2.out.2 with ⟨h, _⟩ | ⟨g, cap, cur, h, hbb, _⟩
        · rw [h] at ej; simp [Value.ownBlock] at ej
        · rw [h] at ej
          have : g = j := by simpa [Value.ownBlock] using ej
          omega)
      have q1 := cell_later hb2 D1.out
      have q2 := cell_later hb2 D2.out
      have HOWN := Lib.hid hown'
      clear hown' hgrow hg0
      refine hK.out _ _ ⟨q1, q2⟩ (fun hHeld => ?_)
      clear hK K
      try simp only [Act.put, List.setIfInBounds_toArray]
      refine takeH (i := 14) (d := some 3) (v := ?_) rfl rfl (by kernel_rfl) (by kernel_rfl) (by kernel_rfl) (fun _ _ _ h => h) (by rfl) ?_ (by assumption) ?_
      rotate_left 1
      · intro w hSw; (try dsimp only at hSw); go_simp; try with_reducible rfl
      simp only [Act.put]
      refine wpAnyH_done (by kernel_rfl) ?_ _
      go_wp2
      go_roundw
      case rel =>
        refine ⟨k + 1, _, _, by omega, by go_num, rfl, HOWN.out, hb2, fun i y hy hi => ?_⟩
        have hxl : xs.length = k * 2 := HRL.out
        by_cases hik : i = k
        · have hyx : y = x := by have := HX.out; rw [← hik, hy] at this; simpa using this
          rw [hik, hyx]
          refine ⟨?_, _, ?_, HE0.out⟩
          · rw [List.getElem?_append_right (by omega), hxl, Nat.sub_self]; rfl
          · rw [List.getElem?_append_right (by omega), hxl, show k * 2 + 1 - k * 2 = 1 by omega]; rfl
        · obtain ⟨r1, ev, r2, r3⟩ := HXS.out i y hy (by omega)
          refine ⟨?_, ev, ?_, r3⟩
          · rw [List.getElem?_append_left (by omega)]; exact r1
          · rw [List.getElem?_append_left (by omega)]; exact r2
      case measure => simp [intOf]; omega
    · obtain rfl : k = m := by omega
      have HB := Lib.hid hb
      have hfin : ChgsAt wr rv C := by
        rcases hr.2 with ⟨rfl, h0⟩ | ⟨g, cap, cur, rfl, hbg, hg, hn, hc, hs, ht⟩
        · have : C = [] := List.eq_nil_of_length_eq_zero (by have := HM.out; omega)
          subst this
          exact ⟨none, 0, rfl, Nat.le_refl _, Nat.zero_le _, Nat.zero_le _, (fun x hx => by cases hx), .inl rfl⟩
        · refine ⟨_, cap, by rw [HM.out], by have := HM.out; omega, by unfold maxLen at hc; omega, by have := HM.out; omega, HNM.out, .inr ⟨g, 0, rfl, (Array.getElem?_eq_some_iff.1 hg).1, fun i x hx => ?_⟩⟩
          have hi := (List.getElem?_eq_some_iff.1 hx).1
          obtain ⟨q1, ev, q2, q3⟩ := hxs i x hx (by have := HM.out; omega)
          rw [Nat.zero_add]
          have e2 : ∀ j, (⟨g, 0, none⟩ : Addr).add j = ⟨g, j, none⟩ := fun j => by unfold Addr.add; split <;> simp_all
          have r1 := hr.cells (g := g) rfl _ _ q1
          have r2 := hr.cells (g := g) rfl _ _ q2
          rw [e2] at r1 r2
          exact ⟨r1, ev, r2, q3.later hb⟩
      have HF := Lib.hid hfin
      clear hb hfin hr hxs
      go_wp2
      go_ret
      exact ⟨_, rfl, HF.out, HB.out⟩

end Go.Proofs.YtbodemkmjemdjaaDoor
