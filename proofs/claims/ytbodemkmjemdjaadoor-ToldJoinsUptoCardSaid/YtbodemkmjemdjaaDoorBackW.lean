/-
  The walk of ToldBack.
-/
import Derived.Test.YtbodemkmjemdjaaDoorParseW
import Derived.Test.YtbodemkmjemdjaaDoorAlive
namespace Go.Proofs.YtbodemkmjemdjaaDoor
open Go.RowKit

theorem parseGo_err (X : List ByteArray) : ∀ (f n : Nat) (out : List Chg), (parseGo X f n out).2.2 ≠ 0 → (parseGo X f n out).1 = [] ∧ (parseGo X f n out).2.2 = 240
  | 0, n, out, h => (h rfl).elim
  | f + 1, n, out, h => by
    unfold parseGo at h ⊢
    split
    · rename_i h1
      rw [if_pos h1] at h
      exact (h rfl).elim
    · rename_i h1
      rw [if_neg h1] at h
      split
      · rename_i h2
        rw [if_pos h2] at h
        split
        · exact ⟨rfl, rfl⟩
        · rename_i h3
          rw [if_neg h3] at h
          exact parseGo_err X f _ _ h
      · exact ⟨rfl, rfl⟩
theorem parse_err (s : ByteArray) (h : (parseF s).2.2 ≠ 0) : (parseF s).1 = [] ∧ (parseF s).2.2 = 240 := parseGo_err _ _ _ _ h

theorem great_text {C : List Chg} (h : greatF C = false) (hv : validF C = true) : (textL C).length ≤ 16000 := by
  have h1 := textL_length C (fun x hx => validGo_at C none hv x hx)
  unfold greatF at h
  rw [decide_eq_false_iff_not] at h
  omega

set_option maxHeartbeats 8000000 in
set_option maxRecDepth 100000 in
theorem back_any (v : Value) (C : List Chg) (s : ByteArray) (ml : Int) (w : World) (hC : ChgsAt w v C) (hs : s.size ≤ 2000000) (hm : w.cell? ⟨1, 0, none⟩ = some (.int .i64 ml)) (hp : Pow10 w) (he : Errs w) :
    Calls Tryd.prog 4 #[v, .string s] w fun e w' => e = .returned (.bool true) ∧ Below w.heap.size w w' := by
  have HC := Lib.hid hC
  have HM := Lib.hid hm
  have HP := Lib.hid hp
  have HE := Lib.hid he
  clear hC hm hp he
  go_enter Tryd.func4, Tryd.ntmps4
  go_wp2_with fail
  refine (alive_any ml w HM.out HP.out).mono ?_
  rintro e w1 ⟨rfl, hb1⟩
  have HC1 := Lib.hid (HC.out.later hb1)
  have HB1 := Lib.hid hb1
  have hgr := great_any v C w1 HC1.out
  clear hb1
  cases hg : greatF C with
  | true =>
    rw [hg] at hgr
    have HGR := Lib.hid hgr
    clear hgr hg
    go_wp2_with fail
    refine HGR.out.mono ?_
    rintro e w2 ⟨rfl, rfl⟩
    go_wp2
    go_ret
    exact ⟨rfl, HB1.out⟩
  | false =>
    rw [hg] at hgr
    have HGR := Lib.hid hgr
    have HG := Lib.hid hg
    clear hgr hg
    by_cases h2 : 2000 < s.size
    · go_wp2_with fail
      refine HGR.out.mono ?_
      rintro e w2 ⟨rfl, rfl⟩
      go_wp2
      go_ret
      exact ⟨rfl, HB1.out⟩
    · have g2 : decide (2000 < s.size) = false := by simpa using h2
      have htx := fun W (hW : Below w.heap.size w W) => text_any v C ml W (HC.out.later hW) (cell_later hW HM.out) (pow10_below HP.out hW) (fun hv => by have := great_text HG.out hv; omega)
      -- the text's own way back
      have hback : ∀ W, Below w.heap.size w W → Calls Tryd.prog 10 #[.string (textF C).1] W fun e w' => ∃ m, e = .returned (.tuple #[m, .int .i64 0, .int .i64 0]) ∧ (validF C = true → ChgsAt w' m C) ∧ Below W.heap.size W w' := by
        intro W hW
        cases hv : validF C with
        | true =>
          have ht : textF C = (⟨(textL C).toArray⟩, 0) := by unfold textF; rw [if_pos hv]
          have hsz : (⟨(textL C).toArray⟩ : ByteArray).size ≤ 1000000 := by
            have := great_text HG.out hv
            rw [Lib.size_eq]
            show (textL C).length ≤ _
            omega
          have := parse_any ⟨(textL C).toArray⟩ ml W hsz (cell_later hW HM.out) (pow10_below HP.out hW) (HE.out.later hW)
          rw [ht]
          refine this.mono ?_
          rintro e w' ⟨m, rfl, h1, h2⟩
          rw [parse_text C hv] at h1 ⊢
          exact ⟨m, rfl, fun _ => h1, h2⟩
        | false =>
          have ht : textF C = (ByteArray.empty, 2) := by unfold textF; rw [if_neg (by rw [hv]; simp)]
          rw [ht]
          refine (parse_any ByteArray.empty ml W (by decide) (cell_later hW HM.out) (pow10_below HP.out hW) (HE.out.later hW)).mono ?_
          rintro e w' ⟨m, rfl, h1, h2⟩
          have hpe : parseF ByteArray.empty = ([], 0, 0) := rfl
          rw [hpe]
          exact ⟨m, rfl, (fun h => by cases h), h2⟩
      have hps := fun W (hW : Below w.heap.size w W) => parse_any s ml W (by omega) (cell_later hW HM.out) (pow10_below HP.out hW) (HE.out.later hW)
      have HTX := Lib.hid htx
      have HBK := Lib.hid hback
      have HPS := Lib.hid hps
      clear htx hback hps
      obtain ⟨t, er, hter⟩ : ∃ t er, textF C = (t, er) := ⟨_, _, rfl⟩
      have hval : (validF C = true ∧ er = 0) ∨ (validF C = false ∧ er = 2) := by
        unfold textF at hter
        cases hv : validF C with
        | true => rw [hv, if_pos rfl] at hter; simp only [Prod.mk.injEq] at hter; exact .inl ⟨rfl, hter.2.symm⟩
        | false => rw [hv, if_neg (by simp)] at hter; simp only [Prod.mk.injEq] at hter; exact .inr ⟨rfl, hter.2.symm⟩
      have hh1 := HTX.out
      have hh2 := HBK.out
      rw [hter] at hh1 hh2
      dsimp only at hh1 hh2
      have HT1 := Lib.hid hh1
      have HT2 := Lib.hid hh2
      clear hh1 hh2 hter HTX HBK
      -- what s says
      obtain ⟨D, k, er2, hD⟩ : ∃ D k er2, parseF s = (D, k, er2) := ⟨_, _, _, rfl⟩
      have hsaid : (er2 = 0 ∧ validF D = true ∧ textF D = (s, 0) ∧ (textL D).length ≤ 1000000000000) ∨ (er2 = 240 ∧ D = []) := by
        by_cases h0 : (parseF s).2.2 = 0
        · obtain ⟨C2, c1, c2, c3⟩ := parse_said s h0
          rw [hD] at c1
          simp only [Prod.mk.injEq] at c1
          obtain ⟨rfl, -, rfl⟩ := c1
          refine .inl ⟨rfl, c3, ?_, ?_⟩
          · unfold textF
            rw [if_pos c3]
            congr 1
            exact bytes_eq c2
          · rw [c2, ← Lib.size_eq]; omega
        · have := parse_err s h0
          rw [hD] at this
          exact .inr ⟨this.2, this.1⟩
      have HSAID := Lib.hid hsaid
      have HD := Lib.hid hD
      clear hsaid hD
      have hrest : ∀ (W : World), Below w.heap.size w W → ∀ (u : Value), ChgsAt W u D → ∃ q r2, Calls Tryd.prog 9 #[u] W (fun e w' => e = .returned (.tuple #[.string q, .int .i64 r2]) ∧ Below W.heap.size W w') ∧ (er2 = 0 → q = s ∧ r2 = 0) := by
        intro W hW u hu
        rcases HSAID.out with ⟨h1, h2, h3, h4⟩ | ⟨h1, h2⟩
        · refine ⟨s, 0, ?_, fun _ => ⟨rfl, rfl⟩⟩
          have := text_any u D ml W hu (cell_later hW HM.out) (pow10_below HP.out hW) (fun _ => h4)
          rw [h3] at this
          exact this
        · subst h2
          have := text_any u [] ml W hu (cell_later hW HM.out) (pow10_below HP.out hW) (fun _ => by simp [textL])
          exact ⟨_, _, this, fun h => by rw [h1] at h; cases h⟩
      have HREST := Lib.hid hrest
      clear hrest
      rcases hval with ⟨hv, rfl⟩ | ⟨hv, rfl⟩
      · have HV := Lib.hid hv
        clear hv
        go_wp2_with fail
        refine HGR.out.mono ?_
        rintro e w2 ⟨rfl, rfl⟩
        go_wp2_with fail
        refine (HT1.out _ HB1.out).mono ?_
        rintro e w3 ⟨rfl, hb3⟩
        have HB3 := Lib.hid (HB1.out.trans (hb3.mono HB1.out.size))
        clear hb3
        go_wp2_with fail
        refine (HT2.out _ HB3.out).mono ?_
        rintro e w4 ⟨m, rfl, hm4, hb4⟩
        have HB4 := Lib.hid (HB3.out.trans (hb4.mono HB3.out.size))
        have HM4 := Lib.hid hm4
        clear hb4 hm4
        go_wp2_with fail
        refine (twin_any v C _ (HC.out.later HB4.out)).mono ?_
        rintro e w5 ⟨u, rfl, hu, hb5⟩
        have HM5 := Lib.hid ((HM4.out HV.out).later hb5)
        have HB5 := Lib.hid (HB4.out.trans (hb5.mono HB4.out.size))
        have HU := Lib.hid hu
        clear hb5 hu
        go_wp2_with fail
        refine (same_chgs m u C _ HM5.out HU.out).mono ?_
        rintro e w6 ⟨rfl, hb6⟩
        have HB6 := Lib.hid (HB5.out.trans (hb6.mono HB5.out.size))
        clear hb6
        go_wp2_with fail
        refine (HPS.out _ HB6.out).mono ?_
        rintro e w7 ⟨c, rfl, hc7, hb7⟩
        rw [HD.out] at hc7 ⊢
        dsimp only at hc7 ⊢
        have HB7 := Lib.hid (HB6.out.trans (hb7.mono HB6.out.size))
        obtain ⟨q, r2, hcall, hq⟩ := HREST.out w7 HB7.out c hc7
        have HCALL := Lib.hid hcall
        clear hcall hc7 hb7
        rcases HSAID.out with ⟨h1, _⟩ | ⟨h1, _⟩
        · subst h1
          obtain ⟨rfl, rfl⟩ := hq rfl
          go_wp2_with fail
          refine HCALL.out.mono ?_
          rintro e w8 ⟨rfl, hb8⟩
          have HB8 := Lib.hid (HB7.out.trans (hb8.mono HB7.out.size))
          clear hb8
          go_wp2
          go_ret
          exact ⟨rfl, HB8.out⟩
        · subst h1
          clear hq
          go_wp2_with fail
          refine HCALL.out.mono ?_
          rintro e w8 ⟨rfl, hb8⟩
          have HB8 := Lib.hid (HB7.out.trans (hb8.mono HB7.out.size))
          clear hb8
          go_wp2
          go_ret
          exact ⟨rfl, HB8.out⟩
      · clear hv
        go_wp2_with fail
        refine HGR.out.mono ?_
        rintro e w2 ⟨rfl, rfl⟩
        go_wp2_with fail
        refine (HT1.out _ HB1.out).mono ?_
        rintro e w3 ⟨rfl, hb3⟩
        have HB3 := Lib.hid (HB1.out.trans (hb3.mono HB1.out.size))
        clear hb3
        go_wp2_with fail
        refine (HT2.out _ HB3.out).mono ?_
        rintro e w4 ⟨m, rfl, hm4, hb4⟩
        have HB4 := Lib.hid (HB3.out.trans (hb4.mono HB3.out.size))
        have HM4 := Lib.hid hm4
        clear hb4 hm4
        go_wp2_with fail
        refine (HPS.out _ HB4.out).mono ?_
        rintro e w7 ⟨c, rfl, hc7, hb7⟩
        rw [HD.out] at hc7 ⊢
        dsimp only at hc7 ⊢
        have HB7 := Lib.hid (HB4.out.trans (hb7.mono HB4.out.size))
        obtain ⟨q, r2, hcall, hq⟩ := HREST.out w7 HB7.out c hc7
        have HCALL := Lib.hid hcall
        clear hcall hc7 hb7
        rcases HSAID.out with ⟨h1, _⟩ | ⟨h1, _⟩
        · subst h1
          obtain ⟨rfl, rfl⟩ := hq rfl
          go_wp2_with fail
          refine HCALL.out.mono ?_
          rintro e w8 ⟨rfl, hb8⟩
          have HB8 := Lib.hid (HB7.out.trans (hb8.mono HB7.out.size))
          clear hb8
          go_wp2
          go_ret
          exact ⟨rfl, HB8.out⟩
        · subst h1
          clear hq
          go_wp2_with fail
          refine HCALL.out.mono ?_
          rintro e w8 ⟨rfl, hb8⟩
          have HB8 := Lib.hid (HB7.out.trans (hb8.mono HB7.out.size))
          clear hb8
          go_wp2
          go_ret
          exact ⟨rfl, HB8.out⟩

end Go.Proofs.YtbodemkmjemdjaaDoor
