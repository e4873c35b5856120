/-
  The walk of ToldJoins.
-/
import Derived.Test.YtbodemkmjemdjaaDoorBackW
import Derived.Test.YtbodemkmjemdjaaDoorHalvesW
namespace Go.Proofs.YtbodemkmjemdjaaDoor
open Go.RowKit

theorem textL_append (A B : List Chg) : textL (A ++ B) = textL A ++ textL B := by simp [textL]

set_option maxHeartbeats 8000000 in
set_option maxRecDepth 100000 in
theorem joins_any (v : Value) (C : List Chg) (x : Int) (ml : Int) (w : World) (hC : ChgsAt w v C) (hx : 0 ≤ x ∧ x ≤ 255) (hm : w.cell? ⟨1, 0, none⟩ = some (.int .i64 ml)) (hp : Pow10 w) (he : Errs w) :
    Calls Tryd.prog 5 #[v, .int .u8 x] w fun e w' => e = .returned (.bool true) ∧ Below w.heap.size w w' := by
  have HC := Lib.hid hC
  have HM := Lib.hid hm
  have HP := Lib.hid hp
  have HE := Lib.hid he
  obtain ⟨a, c, rfl, hc, hcm, hC2, hCn, _⟩ := hC
  obtain ⟨m, hm2⟩ : ∃ m, C.length = m := ⟨_, rfl⟩
  have HM2 := Lib.hid hm2
  rw [hm2] at hc hC2 ⊢
  clear hm hp he hm2 hCn
  go_enter Tryd.func5, Tryd.ntmps5
  go_wp2_with fail
  refine (alive_any ml w HM.out HP.out).mono ?_
  rintro e w1 ⟨rfl, hb1⟩
  have HC1 := Lib.hid (HC.out.later hb1)
  have HB1 := Lib.hid hb1
  have hgr := great_any _ C w1 HC1.out
  rw [HM2.out] at hgr
  clear hb1
  cases hg : greatF C with
  | true =>
    rw [hg] at hgr
    have HGR := Lib.hid hgr
    clear hgr hg
    go_wp2_with fail
    refine HGR.out.mono ?_
    rintro e w2 ⟨rfl, rfl⟩
    go_wp2
    go_ret
    exact ⟨rfl, HB1.out⟩
  | false =>
    rw [hg] at hgr
    have HGR := Lib.hid hgr
    have HG := Lib.hid hg
    clear hgr hg
    have htx := fun W (hW : Below w.heap.size w W) => text_any (.slice a C.length c) C ml W (HC.out.later hW) (cell_later hW HM.out) (pow10_below HP.out hW) (fun hv => by have := great_text HG.out hv; omega)
    rw [HM2.out] at htx
    cases hv : validF C with
    | false =>
      have ht : textF C = (ByteArray.empty, 2) := by unfold textF; rw [if_neg (by rw [hv]; simp)]
      rw [ht] at htx
      dsimp only at htx
      have HTX := Lib.hid htx
      have g0 : ByteArray.empty.toList.isEmpty = true := empty_of_size rfl
      clear htx ht hv
      go_wp2_with fail
      refine HGR.out.mono ?_
      rintro e w2 ⟨rfl, rfl⟩
      go_wp2_with fail
      refine (HTX.out _ HB1.out).mono ?_
      rintro e w3 ⟨rfl, hb3⟩
      have HB3 := Lib.hid (HB1.out.trans (hb3.mono HB1.out.size))
      clear hb3
      go_wp2
      go_ret
      exact ⟨rfl, HB3.out⟩
    | true =>
      have hlen := great_text HG.out hv
      obtain ⟨t, ht⟩ : ∃ t : ByteArray, (⟨(textL C).toArray⟩ : ByteArray) = t := ⟨_, rfl⟩
      have htF : textF C = (t, 0) := by unfold textF; rw [if_pos hv, ht]
      rw [htF] at htx
      dsimp only at htx
      obtain ⟨hr1, hr2⟩ := tmod_bounds x m
      have hr3 := tmod_nonneg' x m hx.1
      obtain ⟨k, hk⟩ : ∃ k : Nat, x.tmod ((m : Int) + 1) = (k : Int) := ⟨(x.tmod ((m : Int) + 1)).toNat, by omega⟩
      rw [hk] at hr1 hr2 hr3
      have hkm : k ≤ m := by omega
      have hTT : C.take k ++ C.drop k = C := List.take_append_drop k C
      have hvs : validF (C.take k) = true ∧ validF (C.drop k) = true := by
        have := hv
        rw [← hTT] at this
        exact validGo_append (C.take k) (C.drop k) none this
      have hcatL : textL (C.take k) ++ textL (C.drop k) = textL C := by rw [← textL_append, hTT]
      have hcl := congrArg List.length hcatL
      rw [List.length_append] at hcl
      obtain ⟨ta, hta⟩ : ∃ t : ByteArray, (⟨(textL (C.take k)).toArray⟩ : ByteArray) = t := ⟨_, rfl⟩
      obtain ⟨tb, htb⟩ : ∃ t : ByteArray, (⟨(textL (C.drop k)).toArray⟩ : ByteArray) = t := ⟨_, rfl⟩
      have htaF : textF (C.take k) = (ta, 0) := by unfold textF; rw [if_pos hvs.1, hta]
      have htbF : textF (C.drop k) = (tb, 0) := by unfold textF; rw [if_pos hvs.2, htb]
      have hcat : ta ++ tb = t := by
        rw [← hta, ← htb, ← ht]
        apply bytes_eq
        rw [ByteArray.data_append, Array.toList_append]
        exact hcatL
      have hsa : ta.size ≤ 16000 := by
        rw [← hta, Lib.size_eq]
        show (textL (C.take k)).length ≤ _
        omega
      have hsb : tb.size ≤ 16000 := by
        rw [← htb, Lib.size_eq]
        show (textL (C.drop k)).length ≤ _
        omega
      have hst : t.size ≤ 16000 := by
        rw [← ht, Lib.size_eq]
        exact hlen
      have htk := fun W (hW : Below w.heap.size w W) (u : Value) (hu : ChgsAt W u (C.take k)) => text_any u (C.take k) ml W hu (cell_later hW HM.out) (pow10_below HP.out hW) (fun _ => by omega)
      have hdk := fun W (hW : Below w.heap.size w W) (u : Value) (hu : ChgsAt W u (C.drop k)) => text_any u (C.drop k) ml W hu (cell_later hW HM.out) (pow10_below HP.out hW) (fun _ => by omega)
      rw [htaF] at htk
      rw [htbF] at hdk
      dsimp only at htk hdk
      have hps := fun W (hW : Below w.heap.size w W) => parse_any (ta ++ tb) ml W (by rw [hcat]; omega) (cell_later hW HM.out) (pow10_below HP.out hW) (HE.out.later hW)
      have hpt : parseF (ta ++ tb) = (C, 0, 0) := by rw [hcat, ← ht]; exact parse_text C hv
      have g1 : ((ta ++ tb).toList == t.toList) = true := by rw [hcat]; simp
      have g2 : ¬ 9223372036854775807 < ta.size + tb.size := by omega
      have hwx : IntKind.i64.wrap x = x := IntWalk.i64_in _ (by omega)
      have hwm : IntKind.i64.wrap ((m : Int) + 1) = (m : Int) + 1 := IntWalk.i64_in _ (by omega)
      have HTX := Lib.hid htx
      have HTK := Lib.hid htk
      have HDK := Lib.hid hdk
      have HPS := Lib.hid hps
      have HPT := Lib.hid hpt
      clear htx htk hdk hps hpt hv ht htF htaF htbF hta htb hcat hcatL hcl hTT hvs hlen
      cases a with
      | none =>
        have hC0 : C = [] := by
          obtain ⟨a', c', hv, _, _, _, _, h⟩ := HC.out
          simp only [Value.slice.injEq] at hv
          rcases h with h | ⟨b, o, h, _⟩
          · exact h
          · rw [h] at hv; cases hv.1
        obtain rfl : m = 0 := by rw [← HM2.out, hC0]; rfl
        obtain rfl : k = 0 := by omega
        have HC0 := Lib.hid hC0
        clear hC0
        go_wp2_with fail
        refine HGR.out.mono ?_
        rintro e w2 ⟨rfl, rfl⟩
        go_wp2_with fail
        refine (HTX.out _ HB1.out).mono ?_
        rintro e w3 ⟨rfl, hb3⟩
        have HB3 := Lib.hid (HB1.out.trans (hb3.mono HB1.out.size))
        have HC3 := Lib.hid (HC.out.later HB3.out)
        clear hb3
        go_wp2_with fail
        refine (HTK.out _ HB3.out _ (by rw [HC0.out]; exact chgsAt_nil (by omega))).mono ?_
        rintro e w4 ⟨rfl, hb4⟩
        have HB4 := Lib.hid (HB3.out.trans (hb4.mono HB3.out.size))
        have HC4 := Lib.hid (HC.out.later HB4.out)
        clear hb4
        go_wp2_with fail
        refine (HDK.out _ HB4.out _ (by rw [HC0.out]; exact chgsAt_nil (by omega))).mono ?_
        rintro e w5 ⟨rfl, hb5⟩
        have HB5 := Lib.hid (HB4.out.trans (hb5.mono HB4.out.size))
        clear hb5
        go_wp2_with fail
        refine (HPS.out _ HB5.out).mono ?_
        rintro e w6 ⟨mm, rfl, hm6, hb6⟩
        rw [HPT.out] at hm6 ⊢
        dsimp only at hm6 ⊢
        have HB6 := Lib.hid (HB5.out.trans (hb6.mono HB5.out.size))
        have HM6 := Lib.hid hm6
        clear hb6 hm6
        go_wp2_with fail
        refine (twin_any _ C _ (by have := HC.out.later HB6.out; rw [HM2.out] at this; exact this)).mono ?_
        rintro e w7 ⟨u, rfl, hu, hb7⟩
        have HM7 := Lib.hid (HM6.out.later hb7)
        have HB7 := Lib.hid (HB6.out.trans (hb7.mono HB6.out.size))
        have HU := Lib.hid hu
        clear hb7 hu
        go_wp2_with fail
        refine (same_chgs mm u C _ HM7.out HU.out).mono ?_
        rintro e w8 ⟨rfl, hb8⟩
        have HB8 := Lib.hid (HB7.out.trans (hb8.mono HB7.out.size))
        clear hb8
        go_wp2
        go_ret
        exact ⟨rfl, HB8.out⟩
      | some ad =>
        by_cases hm0 : m = 0
        · subst hm0
          have hC0 : C = [] := List.eq_nil_of_length_eq_zero HM2.out
          have HC0 := Lib.hid hC0
          clear hC0
          obtain rfl : k = 0 := by omega
          by_cases hc00 : c = 0
          · subst hc00
            go_wp2_with fail
            refine HGR.out.mono ?_
            rintro e w2 ⟨rfl, rfl⟩
            go_wp2_with fail
            refine (HTX.out _ HB1.out).mono ?_
            rintro e w3 ⟨rfl, hb3⟩
            have HB3 := Lib.hid (HB1.out.trans (hb3.mono HB1.out.size))
            have HC3 := Lib.hid (HC.out.later HB3.out)
            clear hb3
            go_wp2_with fail
            refine (HTK.out _ HB3.out _ (by rw [HC0.out]; exact chgsAt_nil (by omega))).mono ?_
            rintro e w4 ⟨rfl, hb4⟩
            have HB4 := Lib.hid (HB3.out.trans (hb4.mono HB3.out.size))
            have HC4 := Lib.hid (HC.out.later HB4.out)
            clear hb4
            go_wp2_with fail
            refine (HDK.out _ HB4.out _ (by rw [HC0.out]; exact chgsAt_nil (by omega))).mono ?_
            rintro e w5 ⟨rfl, hb5⟩
            have HB5 := Lib.hid (HB4.out.trans (hb5.mono HB4.out.size))
            clear hb5
            go_wp2_with fail
            refine (HPS.out _ HB5.out).mono ?_
            rintro e w6 ⟨mm, rfl, hm6, hb6⟩
            rw [HPT.out] at hm6 ⊢
            dsimp only at hm6 ⊢
            have HB6 := Lib.hid (HB5.out.trans (hb6.mono HB5.out.size))
            have HM6 := Lib.hid hm6
            clear hb6 hm6
            go_wp2_with fail
            refine (twin_any _ C _ (by have := HC.out.later HB6.out; rw [HM2.out] at this; exact this)).mono ?_
            rintro e w7 ⟨u, rfl, hu, hb7⟩
            have HM7 := Lib.hid (HM6.out.later hb7)
            have HB7 := Lib.hid (HB6.out.trans (hb7.mono HB6.out.size))
            have HU := Lib.hid hu
            clear hb7 hu
            go_wp2_with fail
            refine (same_chgs mm u C _ HM7.out HU.out).mono ?_
            rintro e w8 ⟨rfl, hb8⟩
            have HB8 := Lib.hid (HB7.out.trans (hb8.mono HB7.out.size))
            clear hb8
            go_wp2
            go_ret
            exact ⟨rfl, HB8.out⟩
          · have hc01 : 0 < c := by omega
            go_wp2_with fail
            refine HGR.out.mono ?_
            rintro e w2 ⟨rfl, rfl⟩
            go_wp2_with fail
            refine (HTX.out _ HB1.out).mono ?_
            rintro e w3 ⟨rfl, hb3⟩
            have HB3 := Lib.hid (HB1.out.trans (hb3.mono HB1.out.size))
            have HC3 := Lib.hid (HC.out.later HB3.out)
            clear hb3
            go_wp2_with fail
            refine (HTK.out _ HB3.out _ (by rw [HC0.out]; exact chgsAt_nil (by omega))).mono ?_
            rintro e w4 ⟨rfl, hb4⟩
            have HB4 := Lib.hid (HB3.out.trans (hb4.mono HB3.out.size))
            have HC4 := Lib.hid (HC.out.later HB4.out)
            clear hb4
            go_wp2_with fail
            refine (HDK.out _ HB4.out _ (by rw [HC0.out]; exact chgsAt_nil (by omega))).mono ?_
            rintro e w5 ⟨rfl, hb5⟩
            have HB5 := Lib.hid (HB4.out.trans (hb5.mono HB4.out.size))
            clear hb5
            go_wp2_with fail
            refine (HPS.out _ HB5.out).mono ?_
            rintro e w6 ⟨mm, rfl, hm6, hb6⟩
            rw [HPT.out] at hm6 ⊢
            dsimp only at hm6 ⊢
            have HB6 := Lib.hid (HB5.out.trans (hb6.mono HB5.out.size))
            have HM6 := Lib.hid hm6
            clear hb6 hm6
            go_wp2_with fail
            refine (twin_any _ C _ (by have := HC.out.later HB6.out; rw [HM2.out] at this; exact this)).mono ?_
            rintro e w7 ⟨u, rfl, hu, hb7⟩
            have HM7 := Lib.hid (HM6.out.later hb7)
            have HB7 := Lib.hid (HB6.out.trans (hb7.mono HB6.out.size))
            have HU := Lib.hid hu
            clear hb7 hu
            go_wp2_with fail
            refine (same_chgs mm u C _ HM7.out HU.out).mono ?_
            rintro e w8 ⟨rfl, hb8⟩
            have HB8 := Lib.hid (HB7.out.trans (hb8.mono HB7.out.size))
            clear hb8
            go_wp2
            go_ret
            exact ⟨rfl, HB8.out⟩
        · obtain ⟨b, o, hab⟩ : ∃ b o, ad = ⟨b, o, none⟩ := by
            obtain ⟨a', c', hv, _, _, _, _, h⟩ := HC.out
            simp only [Value.slice.injEq] at hv
            rcases h with h | ⟨b, o, h, _⟩
            · have := HM2.out; rw [h] at this; simp at this; omega
            · rw [h] at hv
              exact ⟨b, o, by simpa using hv.1⟩
          subst hab
          by_cases hck : c = k
          · obtain rfl : m = k := by omega
            subst hck
            go_wp2_with fail
            refine HGR.out.mono ?_
            rintro e w2 ⟨rfl, rfl⟩
            go_wp2_with fail
            refine (HTX.out _ HB1.out).mono ?_
            rintro e w3 ⟨rfl, hb3⟩
            have HB3 := Lib.hid (HB1.out.trans (hb3.mono HB1.out.size))
            have HC3 := Lib.hid (HC.out.later HB3.out)
            clear hb3
            go_wp2_with fail
            refine (HTK.out _ HB3.out _ (by rw [List.take_of_length_le (by have := HM2.out; omega)]; have h0 := HC3.out; rw [HM2.out] at h0; exact h0)).mono ?_
            rintro e w4 ⟨rfl, hb4⟩
            have HB4 := Lib.hid (HB3.out.trans (hb4.mono HB3.out.size))
            have HC4 := Lib.hid (HC.out.later HB4.out)
            clear hb4
            go_wp2_with fail
            refine (HDK.out _ HB4.out _ (by rw [List.drop_eq_nil_of_le (by have := HM2.out; omega)]; exact chgsAt_nil (by omega))).mono ?_
            rintro e w5 ⟨rfl, hb5⟩
            have HB5 := Lib.hid (HB4.out.trans (hb5.mono HB4.out.size))
            clear hb5
            go_wp2_with fail
            refine (HPS.out _ HB5.out).mono ?_
            rintro e w6 ⟨mm, rfl, hm6, hb6⟩
            rw [HPT.out] at hm6 ⊢
            dsimp only at hm6 ⊢
            have HB6 := Lib.hid (HB5.out.trans (hb6.mono HB5.out.size))
            have HM6 := Lib.hid hm6
            clear hb6 hm6
            go_wp2_with fail
            refine (twin_any _ C _ (by have := HC.out.later HB6.out; rw [HM2.out] at this; exact this)).mono ?_
            rintro e w7 ⟨u, rfl, hu, hb7⟩
            have HM7 := Lib.hid (HM6.out.later hb7)
            have HB7 := Lib.hid (HB6.out.trans (hb7.mono HB6.out.size))
            have HU := Lib.hid hu
            clear hb7 hu
            go_wp2_with fail
            refine (same_chgs mm u C _ HM7.out HU.out).mono ?_
            rintro e w8 ⟨rfl, hb8⟩
            have HB8 := Lib.hid (HB7.out.trans (hb8.mono HB7.out.size))
            clear hb8
            go_wp2
            go_ret
            exact ⟨rfl, HB8.out⟩
          · have hc00 : ¬ c = 0 := by omega
            go_wp2_with fail
            refine HGR.out.mono ?_
            rintro e w2 ⟨rfl, rfl⟩
            go_wp2_with fail
            refine (HTX.out _ HB1.out).mono ?_
            rintro e w3 ⟨rfl, hb3⟩
            have HB3 := Lib.hid (HB1.out.trans (hb3.mono HB1.out.size))
            have HC3 := Lib.hid (HC.out.later HB3.out)
            clear hb3
            go_wp2_with fail
            refine (HTK.out _ HB3.out _ (by have h0 := HC3.out; exact chgsAt_take h0 _ (by have := HM2.out; omega))).mono ?_
            rintro e w4 ⟨rfl, hb4⟩
            have HB4 := Lib.hid (HB3.out.trans (hb4.mono HB3.out.size))
            have HC4 := Lib.hid (HC.out.later HB4.out)
            clear hb4
            go_wp2_with fail
            refine (HDK.out _ HB4.out _ (by have h0 := HC4.out; have h1 := HM2.out; have h2 := chgsAt_drop h0 k (by omega) (a2 := some ⟨b, o + k * 2, none⟩) (fun b' o' hb' hk' => by simp only [Option.some.injEq, Addr.mk.injEq, and_true] at hb'; rw [hb'.1, hb'.2]); rw [h1] at h2; exact h2)).mono ?_
            rintro e w5 ⟨rfl, hb5⟩
            have HB5 := Lib.hid (HB4.out.trans (hb5.mono HB4.out.size))
            clear hb5
            go_wp2_with fail
            refine (HPS.out _ HB5.out).mono ?_
            rintro e w6 ⟨mm, rfl, hm6, hb6⟩
            rw [HPT.out] at hm6 ⊢
            dsimp only at hm6 ⊢
            have HB6 := Lib.hid (HB5.out.trans (hb6.mono HB5.out.size))
            have HM6 := Lib.hid hm6
            clear hb6 hm6
            go_wp2_with fail
            refine (twin_any _ C _ (by have := HC.out.later HB6.out; rw [HM2.out] at this; exact this)).mono ?_
            rintro e w7 ⟨u, rfl, hu, hb7⟩
            have HM7 := Lib.hid (HM6.out.later hb7)
            have HB7 := Lib.hid (HB6.out.trans (hb7.mono HB6.out.size))
            have HU := Lib.hid hu
            clear hb7 hu
            go_wp2_with fail
            refine (same_chgs mm u C _ HM7.out HU.out).mono ?_
            rintro e w8 ⟨rfl, hb8⟩
            have HB8 := Lib.hid (HB7.out.trans (hb8.mono HB7.out.size))
            clear hb8
            go_wp2
            go_ret
            exact ⟨rfl, HB8.out⟩

end Go.Proofs.YtbodemkmjemdjaaDoor
