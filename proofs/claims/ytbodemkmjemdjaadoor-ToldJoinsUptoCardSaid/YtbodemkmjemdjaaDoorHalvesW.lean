/-
  The walk of ToldHalves.
-/
import Derived.Test.YtbodemkmjemdjaaDoorTold
import Derived.Test.YtbodemkmjemdjaaDoorAlive
import Derived.BigQuiet
import Derived.Deep.QuietTactic
namespace Go.Proofs.YtbodemkmjemdjaaDoor
open Go.RowKit

def sumF (L : List Fil) : Nat := (L.map fun f => 20 + f.name.size + f.text.size).sum
theorem sumF_take {L : List Fil} {k : Nat} {f : Fil} (h : L[k]? = some f) : sumF (L.take (k + 1)) = sumF (L.take k) + (20 + f.name.size + f.text.size) := by
  rw [List.take_add_one, h]
  simp [sumF]
theorem sumF_mem {L : List Fil} {f : Fil} (h : f ∈ L) : f.text.size ≤ sumF L := by
  induction L with
  | nil => cases h
  | cons g L ih =>
    have e : sumF (g :: L) = 20 + g.name.size + g.text.size + sumF L := by simp [sumF]
    rcases List.mem_cons.1 h with rfl | h
    · omega
    · have := ih h; omega
theorem sumF_le (L : List Fil) (h : ∀ f ∈ L, f.name.size ≤ 2000000 ∧ f.text.size ≤ 2000000) : sumF L ≤ L.length * 4000020 := by
  induction L with
  | nil => simp [sumF]
  | cons g L ih =>
    have e : sumF (g :: L) = 20 + g.name.size + g.text.size + sumF L := by simp [sumF]
    have h1 := h g (by simp)
    have h2 := ih (fun f hf => h f (by simp [hf]))
    rw [List.length_cons]
    omega
theorem sumTx_sumE (E : List Ed) : sumTx E ≤ sumE E := by
  induction E with
  | nil => simp [sumTx]
  | cons e E ih =>
    have : sumE (e :: E) = 10 + e.tx.size + sumE E := by simp [sumE]
    simp only [sumTx]
    omega
theorem sumT_sumC (C : List Chg) : sumT C ≤ sumC C := by
  induction C with
  | nil => simp [sumT]
  | cons c C ih =>
    have h1 : sumC (c :: C) = 20 + c.name.size + sumE c.eds + sumC C := by simp [sumC]
    have h2 := sumTx_sumE c.eds
    simp only [sumT]
    omega
theorem sumT_append (A B : List Chg) : sumT (A ++ B) = sumT A + sumT B := by
  induction A with
  | nil => simp [sumT]
  | cons a A ih => simp only [List.cons_append, sumT, ih]; omega

theorem tmod_bounds (x : Int) (m : Nat) : -(m : Int) ≤ x.tmod ((m : Int) + 1) ∧ x.tmod ((m : Int) + 1) ≤ (m : Int) := by
  have h := Int.natAbs_tmod x ((m : Int) + 1)
  have h2 : ((m : Int) + 1).natAbs = m + 1 := by omega
  rw [h2] at h
  have h3 := Nat.mod_lt x.natAbs (show 0 < m + 1 by omega)
  omega
theorem tmod_nonneg' (x : Int) (m : Nat) (h : 0 ≤ x) : 0 ≤ x.tmod ((m : Int) + 1) := Int.tmod_nonneg _ h
theorem chgsAt_nil {w : World} {a : Option Addr} {c : Nat} (hc : c ≤ 9223372036854775807) : ChgsAt w (.slice a 0 c) [] :=
  ⟨a, c, rfl, Nat.zero_le _, hc, Nat.zero_le _, (fun x hx => by cases hx), .inl rfl⟩

theorem drewN_below' {n : Nat} {w w' : World} (h : Below n w w') (k : Nat) : Below n w (w'.drewN k) := ⟨h.os, h.tape, h.output, h.size, h.block⟩

theorem chgsAt_take {w : World} {a : Option Addr} {c : Nat} {C : List Chg} (h : ChgsAt w (.slice a C.length c) C) (k : Nat) (hk : k ≤ C.length) : ChgsAt w (.slice a k c) (C.take k) := by
  obtain ⟨a', c', hv, hc, hcm, hl, hn, h⟩ := h
  simp only [Value.slice.injEq, true_and] at hv
  obtain ⟨rfl, rfl⟩ := hv
  have hkl : (C.take k).length = k := by rw [List.length_take]; omega
  refine ⟨a, c, by rw [hkl], by rw [hkl]; omega, hcm, by rw [hkl]; omega, fun x hx => hn x (List.mem_of_mem_take hx), ?_⟩
  rcases h with h | ⟨b, o, h, hlt, hcs⟩
  · exact .inl (by rw [h]; simp)
  · refine .inr ⟨b, o, h, hlt, fun i x hx => ?_⟩
    rw [List.getElem?_take] at hx
    split at hx
    · exact hcs i x hx
    · cases hx
theorem chgsAt_drop {w : World} {a a2 : Option Addr} {c : Nat} {C : List Chg} (h : ChgsAt w (.slice a C.length c) C) (k : Nat) (hk : k ≤ C.length) (ha : ∀ b o, a = some ⟨b, o, none⟩ → k < C.length → a2 = some ⟨b, o + k * 2, none⟩) :
    ChgsAt w (.slice a2 (C.length - k) (c - k)) (C.drop k) := by
  obtain ⟨a', c', hv, hc, hcm, hl, hn, h⟩ := h
  simp only [Value.slice.injEq, true_and] at hv
  obtain ⟨rfl, rfl⟩ := hv
  have hkl : (C.drop k).length = C.length - k := List.length_drop
  refine ⟨a2, c - k, by rw [hkl], by rw [hkl]; omega, by omega, by rw [hkl]; omega, fun x hx => hn x (List.mem_of_mem_drop hx), ?_⟩
  by_cases hkk : k < C.length
  · rcases h with h | ⟨b, o, h, hlt, hcs⟩
    · rw [h] at hkk; simp at hkk
    · refine .inr ⟨b, o + k * 2, ha b o h hkk, hlt, fun i x hx => ?_⟩
      rw [List.getElem?_drop] at hx
      have := hcs _ x hx
      rw [show o + k * 2 + i * 2 = o + (k + i) * 2 by omega]
      exact this
  · exact .inl (List.drop_eq_nil_of_le (by omega))

set_option maxHeartbeats 8000000 in
set_option maxRecDepth 100000 in
theorem halves_any (v : Value) (L : List Fil) (u : Value) (C : List Chg) (cut : Int) (ml : Int) (w : World) (hL : FilsAt w v L) (hC : ChgsAt w u C) (hcut : -9223372036854775808 ≤ cut ∧ cut ≤ 9223372036854775807) (hm : w.cell? ⟨1, 0, none⟩ = some (.int .i64 ml)) (hp : Pow10 w) :
    Calls Tryd.prog 3 #[v, u, .int .i64 cut] w fun e w' => e = .returned (.bool true) ∧ Below w.heap.size w w' := by
  have HL := Lib.hid hL
  have HC := Lib.hid hC
  obtain ⟨a0, c0, rfl, hc0, hn2, hLs, hLc⟩ := hL
  obtain ⟨n, hn⟩ : ∃ n, L.length = n := ⟨_, rfl⟩
  obtain ⟨a, c, rfl, hc, hcm, hC2, hCn, _⟩ := hC
  obtain ⟨m, hm2⟩ : ∃ m, C.length = m := ⟨_, rfl⟩
  rw [hm2] at hc hC2 ⊢
  rw [hn] at hc0 hn2 ⊢
  have HLS := Lib.hid hLs; clear hLs
  have HLC := Lib.hid hLc; clear hLc
  have HN := Lib.hid hn; clear hn
  have HM2 := Lib.hid hm2; clear hm2
  have HM := Lib.hid hm; clear hm
  have HP := Lib.hid hp; clear hp hCn
  have HCUT := Lib.hid hcut; clear hcut
  go_enter Tryd.func3, Tryd.ntmps3
  go_wp2_with fail
  refine (alive_any ml w HM.out HP.out).mono ?_
  rintro e w1 ⟨rfl, hb1⟩
  have HB1 := Lib.hid hb1
  clear hb1
  go_wp2
  go_loopw [8, 9] (fun nv i wr => ∃ (k s : Nat), k ≤ n ∧ i = .int .i64 k ∧ nv = .int .i64 s ∧ s = sumF (L.take k) ∧ Below w.heap.size w wr) (fun _ i _ => n - (intOf i).toNat)
  case atStart => exact ⟨0, 0, Nat.zero_le _, rfl, rfl, by simp [sumF], HB1.out⟩
  case round =>
    obtain ⟨k, s, hk, rfl, rfl, hs, hb⟩ := hrel
    by_cases hkn : k < n
    · obtain ⟨f, hf⟩ : ∃ f, L[k]? = some f := ⟨L[k]'(by have := HN.out; omega), List.getElem?_eq_getElem _⟩
      have hfs := HLS.out f (List.mem_of_getElem? hf)
      have hsl : s ≤ 8000040000000 := by
        rw [hs]
        have h1 := sumF_le (L.take k) (fun g hg => HLS.out g (List.mem_of_mem_take hg))
        rw [List.length_take] at h1
        omega
      rcases HLC.out with h | ⟨b, o, rfl, hlt, hcs⟩
      · rw [h] at hf; simp at hf
      obtain ⟨d1, d2⟩ := hcs k f hf
      have c1 := cell_later hb d1
      have c2 := cell_later hb d2
      have hst := sumF_take hf
      rw [← hs] at hst
      obtain ⟨hfn, hft⟩ := hfs
      have w1 : IntKind.i64.wrap ((s : Int) + 20) = (s : Int) + 20 := IntWalk.i64_in _ (by omega)
      have w2 : IntKind.i64.wrap ((s : Int) + 20 + (f.name.size : Int)) = (s : Int) + 20 + (f.name.size : Int) := IntWalk.i64_in _ (by omega)
      have w3 : IntKind.i64.wrap ((s : Int) + 20 + (f.name.size : Int) + (f.text.size : Int)) = (s : Int) + 20 + (f.name.size : Int) + (f.text.size : Int) := IntWalk.i64_in _ (by omega)
      have HST := Lib.hid hst
      have HB := Lib.hid hb
      clear hst hb hs hcs d1 d2 hf hlt
      go_wp2_with fail
      go_quiet (fail)
      go_wp2
      go_roundw
      case rel => exact ⟨k + 1, s + 20 + f.name.size + f.text.size, by omega, by go_num, by simp, by rw [HST.out]; omega, drewN_below' HB.out _⟩
      case measure => simp [intOf]; omega
    · obtain rfl : n = k := by omega
      have ht : L.take n = L := List.take_of_length_le (by have := HN.out; omega)
      rw [ht] at hs
      have HBS := Lib.hid hb
      have HS := Lib.hid hs
      have HCR := Lib.hid (HC.out.later hb)
      have HLR := Lib.hid (HL.out.later hb)
      clear hb hs ht hkn hk HB1
      by_cases h4 : 400 < s
      · have g4 : ((400 : Int) < (s : Int)) := by omega
        go_wp2
        go_ret
        exact ⟨rfl, HBS.out⟩
      have g4 : decide (400 < s) = false := by simpa using h4
      have hgr := great_any _ C wr HCR.out
      rw [HM2.out] at hgr
      cases hg : greatF C with
      | true =>
        rw [hg] at hgr
        have HGR := Lib.hid hgr
        clear hgr hg
        go_wp2_with (first | (go_at_call 7; refine HGR.out.mono ?_; rintro e5 w5 ⟨rfl, rfl⟩) | go_in)
        go_ret
        exact ⟨rfl, HBS.out⟩
      | false =>
        rw [hg] at hgr
        have hsum : sumT C ≤ 2000 := by
          have h1 := sumT_sumC C
          unfold greatF at hg
          rw [decide_eq_false_iff_not] at hg
          omega
        have hsz : ∀ f ∈ L, f.text.size + sumT C ≤ 2400 := fun f hf => by
          have h1 := sumF_mem hf
          have h2 := HS.out
          omega
        have hap := told_any _ L _ C ml wr HLR.out HCR.out (cell_later HBS.out HM.out) (fun f hf => by have := hsz f hf; omega)
        rw [HM2.out, HN.out] at hap
        obtain ⟨N, er, hT⟩ : ∃ N er, toldF L C = (N, er) := ⟨_, _, rfl⟩
        rw [hT] at hap
        dsimp only at hap
        have HGR := Lib.hid hgr
        have HAP := Lib.hid hap
        have HSZ := Lib.hid hsz
        have HSUM := Lib.hid hsum
        by_cases her : er = 0
        · subst her
          have HT := Lib.hid hT
          obtain ⟨r, hr⟩ : ∃ r, cut.tmod ((m : Int) + 1) = r := ⟨_, rfl⟩
          obtain ⟨hr1, hr2⟩ := tmod_bounds cut m
          rw [hr] at hr1 hr2
          have hw1 : IntKind.i64.wrap (r + (m : Int)) = r + (m : Int) := IntWalk.i64_in _ (by omega)
          have hw2 : IntKind.i64.wrap (r + (m : Int) + 1) = r + (m : Int) + 1 := IntWalk.i64_in _ (by omega)
          have hk1 := tmod_nonneg' (r + (m : Int) + 1) m (by omega)
          obtain ⟨_, hk2⟩ := tmod_bounds (r + (m : Int) + 1) m
          obtain ⟨k, hk⟩ : ∃ k : Nat, (r + (m : Int) + 1).tmod ((m : Int) + 1) = (k : Int) := ⟨((r + (m : Int) + 1).tmod ((m : Int) + 1)).toNat, by omega⟩
          rw [hk] at hk1 hk2
          have hkm : k ≤ m := by omega
          have hTT : C.take k ++ C.drop k = C := List.take_append_drop k C
          rw [← hTT] at hT
          obtain ⟨K, hK1, hK2⟩ := told_halves L (C.take k) (C.drop k) N hT
          have hsT : sumT (C.take k) + sumT (C.drop k) = sumT C := by rw [← sumT_append, hTT]
          have hKs := toldF_size (b := 2400) hK1 (fun f hf => by have := hsz f hf; omega)
          have hap2 : ∀ W, Below w.heap.size w W → ∀ u2, ChgsAt W u2 (C.take k) → Calls Tryd.prog 8 #[.slice a0 n c0, u2] W fun r w' => ∃ y, r = .returned (.tuple #[y, .int .i64 0]) ∧ FilsAt w' y K ∧ Below W.heap.size W w' := fun W hW u2 hu2 => by
            have := told_any (.slice a0 L.length c0) L u2 (C.take k) ml W (HL.out.later hW) hu2 (cell_later hW HM.out) (fun f hf => by have := hsz f hf; omega)
            rw [hK1, HN.out] at this
            exact this.mono fun r w' ⟨y, h1, h2, h3⟩ => ⟨y, h1, h2 rfl, h3⟩
          have hap3 : ∀ W y u2, Below w.heap.size w W → FilsAt W y K → ChgsAt W u2 (C.drop k) → Calls Tryd.prog 8 #[y, u2] W fun r w' => ∃ z, r = .returned (.tuple #[z, .int .i64 0]) ∧ FilsAt w' z N ∧ Below W.heap.size W w' := fun W y u2 hW hy hu2 => by
            have := told_any y K u2 (C.drop k) ml W hy hu2 (cell_later hW HM.out) (fun f hf => by have := hKs f hf; omega)
            rw [hK2] at this
            exact this.mono fun r w' ⟨y, h1, h2, h3⟩ => ⟨y, h1, h2 rfl, h3⟩
          have HAP2 := Lib.hid hap2
          have HAP3 := Lib.hid hap3
          have HCX := Lib.hid HC.out
          have j1 : (0 : Int) ≤ (k : Int) := by omega
          have j2 : (k : Int) ≤ (m : Int) := by omega
          have j3 : (k : Int) ≤ (c : Int) := by omega
          clear hgr hg hap hsz hsum hT hap2 hap3 hK1 hK2 hKs hsT hTT
          cases a with
          | none =>
            have hC0 : C = [] := by
              obtain ⟨a', c', hv, _, _, _, _, h⟩ := HC.out
              simp only [Value.slice.injEq] at hv
              rcases h with h | ⟨b, o, h, _⟩
              · exact h
              · rw [h] at hv; cases hv.1
            obtain rfl : m = 0 := by rw [← HM2.out, hC0]; rfl
            obtain rfl : k = 0 := by omega
            go_wp2_with (first | (go_at_call 7; refine HGR.out.mono ?_; rintro e5 w5 ⟨rfl, rfl⟩) | fail)
            refine HAP.out.mono ?_
            rintro e6 w6 ⟨y1, rfl, hy1, hb6⟩
            clear HAP
            go_wp2_with fail
            have hb6w := HBS.out.trans (hb6.mono HBS.out.size)
            obtain ⟨ya, yc, rfl, hyc, hyn, hys, hyl⟩ := hy1 (by first | rfl | trivial)
            have HY := Lib.hid hyl
            have hCC := HCR.out.later hb6
            rw [HM2.out] at hCC
            have HCC := Lib.hid hCC
            clear hyl hys hCC hy1
            refine (HAP2.out _ hb6w _ (by rw [hC0]; exact chgsAt_nil (by omega))).mono ?_
            rintro e7 w7 ⟨y2, rfl, hy2, hb7⟩
            have hb7w := hb6w.trans (hb7.mono hb6w.size)
            have HCD := Lib.hid (HCC.out.later hb7)
            go_wp2_with fail
            refine (HAP3.out _ _ _ hb7w hy2 (by rw [hC0]; exact chgsAt_nil (by omega))).mono ?_
            rintro e8 w8 ⟨y3, rfl, hy3, hb8⟩
            have hb8w := hb7w.trans (hb8.mono hb7w.size)
            obtain ⟨za, zc, rfl, hzc, hzn, hzs, hzl⟩ := hy3
            have HZ := Lib.hid hzl
            obtain ⟨p, hp⟩ : ∃ p, N.length = p := ⟨_, rfl⟩
            rw [hp] at hyc hyn hzc hzn
            rw [hp]
            have HP := Lib.hid hp
            have hb68 := hb7.trans (hb8.mono hb7.size)
            have HB8 := Lib.hid hb8w
            have HB68 := Lib.hid hb68
            clear hzl hzs hb6 hb6w hb7 hb7w hb8 hb8w hb68 hy2 hp HAP2 HAP3 HCC HCD
            go_wp2
            go_loopw [17] (fun iv wr => ∃ i : Nat, i ≤ p ∧ iv = .int .i64 i ∧ Below w8.heap.size w8 wr) (fun iv _ => p - (intOf iv).toNat)
            case atStart => exact ⟨0, Nat.zero_le _, rfl, Below.refl _ _⟩
            case round =>
              obtain ⟨i, hi, rfl, hbr⟩ := hrel
              by_cases hip : i < p
              · obtain ⟨f, hf⟩ : ∃ f, N[i]? = some f := ⟨N[i]'(by have := HP.out; omega), List.getElem?_eq_getElem _⟩
                rcases HY.out with h | ⟨b1, o1, rfl, hlt1, hcs1⟩
                · rw [h] at hf; simp at hf
                rcases HZ.out with h | ⟨b2, o2, rfl, hlt2, hcs2⟩
                · rw [h] at hf; simp at hf
                obtain ⟨d1, d2⟩ := hcs1 i f hf
                obtain ⟨d3, d4⟩ := hcs2 i f hf
                have t1 : wr.drew.cell? ⟨b1, o1 + i * 2, none⟩ = some (.string f.name) := cell_later (below_drew hbr) (cell_later HB68.out d1)
                have t2 : wr.drew.cell? ⟨b1, o1 + i * 2 + 1, none⟩ = some (.string f.text) := cell_later (below_drew hbr) (cell_later HB68.out d2)
                have t3 : wr.drew.cell? ⟨b2, o2 + i * 2, none⟩ = some (.string f.name) := cell_later (below_drew hbr) d3
                have t4 : wr.drew.cell? ⟨b2, o2 + i * 2 + 1, none⟩ = some (.string f.text) := cell_later (below_drew hbr) d4
                have HBR := Lib.hid hbr
                clear hbr d1 d2 d3 d4 hcs1 hcs2 hf
                go_wp2
                refine wp_region_held_drew (S := fun w' : World => w'.cell? ⟨b1, o1 + i * 2, none⟩ = some (.string f.name) ∧ w'.cell? ⟨b1, o1 + i * 2 + 1, none⟩ = some (.string f.text) ∧ w'.cell? ⟨b2, o2 + i * 2, none⟩ = some (.string f.name) ∧ w'.cell? ⟨b2, o2 + i * 2 + 1, none⟩ = some (.string f.text)) (by kernel_rfl) ⟨t1, t2, t3, t4⟩ (fun hHeld => ?_)
                refine takeH (i := 0) (d := some 109) (v := ?_) rfl rfl (by kernel_rfl) (by kernel_rfl) (by kernel_rfl) (fun _ _ _ h => h) (by rfl) ?_ (by assumption) ?_
                rotate_left 1
                · intro w hSw; (try dsimp only at hSw); go_simp; try with_reducible rfl
                simp only [Act.put, List.setIfInBounds_toArray, List.set]
                refine takeH (i := 1) (d := some 110) (v := ?_) rfl rfl (by kernel_rfl) (by kernel_rfl) (by kernel_rfl) (fun _ _ _ h => h) (by rfl) ?_ (by assumption) ?_
                rotate_left 1
                · intro w hSw; (try dsimp only at hSw); go_simp; try with_reducible rfl
                simp only [Act.put, List.setIfInBounds_toArray, List.set]
                refine takeH (i := 2) (d := some 111) (v := ?_) rfl rfl (by kernel_rfl) (by kernel_rfl) (by kernel_rfl) (fun _ _ _ h => h) (by rfl) ?_ (by assumption) ?_
                rotate_left 1
                · intro w hSw; (try dsimp only at hSw); go_simp; try with_reducible rfl
                simp only [Act.put, List.setIfInBounds_toArray, List.set]
                refine takeH (i := 3) (d := some 112) (v := ?_) rfl rfl (by kernel_rfl) (by kernel_rfl) (by kernel_rfl) (fun _ _ _ h => h) (by rfl) ?_ (by assumption) ?_
                rotate_left 1
                · intro w hSw; (try dsimp only at hSw); go_simp; try with_reducible rfl
                simp only [Act.put, List.setIfInBounds_toArray, List.set]
                refine takeH (i := 4) (d := some 113) (v := ?_) rfl rfl (by kernel_rfl) (by kernel_rfl) (by kernel_rfl) (fun _ _ _ h => h) (by rfl) ?_ (by assumption) ?_
                rotate_left 1
                · intro w hSw; (try dsimp only at hSw); go_simp; try with_reducible rfl
                simp only [Act.put, List.setIfInBounds_toArray, List.set]
                refine takeH (i := 5) (d := some 114) (v := ?_) rfl rfl (by kernel_rfl) (by kernel_rfl) (by kernel_rfl) (fun _ _ _ h => h) (by rfl) ?_ (by assumption) ?_
                rotate_left 1
                · intro w hSw; (try dsimp only at hSw); go_simp; try with_reducible rfl
                simp only [Act.put, List.setIfInBounds_toArray, List.set]
                refine takeH (i := 6) (d := some 115) (v := ?_) rfl rfl (by kernel_rfl) (by kernel_rfl) (by kernel_rfl) (fun _ _ _ h => h) (by rfl) ?_ (by assumption) ?_
                rotate_left 1
                · intro w hSw; (try dsimp only at hSw); go_simp; try with_reducible rfl
                simp only [Act.put, List.setIfInBounds_toArray, List.set]
                refine takeH (i := 7) (d := some 116) (v := ?_) rfl rfl (by kernel_rfl) (by kernel_rfl) (by kernel_rfl) (fun _ _ _ h => h) (by rfl) ?_ (by assumption) ?_
                rotate_left 1
                · intro w hSw; (try dsimp only at hSw); go_simp; try with_reducible rfl
                simp only [Act.put, List.setIfInBounds_toArray, List.set]
                refine takeH (i := 8) (d := some 117) (v := ?_) rfl rfl (by kernel_rfl) (by kernel_rfl) (by kernel_rfl) (fun _ _ _ h => h) (by rfl) ?_ (by assumption) ?_
                rotate_left 1
                · intro w hSw; (try dsimp only at hSw); go_simp; try with_reducible rfl
                simp only [Act.put, List.setIfInBounds_toArray, List.set]
                refine takeH (i := 9) (d := some 118) (v := ?_) rfl rfl (by kernel_rfl) (by kernel_rfl) (by kernel_rfl) (fun _ _ _ h => h) (by rfl) ?_ (by assumption) ?_
                rotate_left 1
                · intro w hSw; (try dsimp only at hSw); go_simp; try with_reducible rfl
                simp only [Act.put, List.setIfInBounds_toArray, List.set]
                refine takeH (i := 10) (d := some 119) (v := ?_) rfl rfl (by kernel_rfl) (by kernel_rfl) (by kernel_rfl) (fun _ _ _ h => h) (by rfl) ?_ (by assumption) ?_
                rotate_left 1
                · intro w hSw; (try dsimp only at hSw); go_simp; try with_reducible rfl
                simp only [Act.put, List.setIfInBounds_toArray, List.set]
                refine takeH (i := 11) (d := some 120) (v := ?_) rfl rfl (by kernel_rfl) (by kernel_rfl) (by kernel_rfl) (fun _ _ _ h => h) (by rfl) ?_ (by assumption) ?_
                rotate_left 1
                · intro w hSw; (try dsimp only at hSw); go_simp; try with_reducible rfl
                simp only [Act.put, List.setIfInBounds_toArray, List.set]
                refine takeH (i := 12) (d := some 121) (v := ?_) rfl rfl (by kernel_rfl) (by kernel_rfl) (by kernel_rfl) (fun _ _ _ h => h) (by rfl) ?_ (by assumption) ?_
                rotate_left 1
                · intro w hSw; (try dsimp only at hSw); go_simp; try with_reducible rfl
                simp only [Act.put, List.setIfInBounds_toArray, List.set]
                refine takeH (i := 13) (d := some 122) (v := ?_) rfl rfl (by kernel_rfl) (by kernel_rfl) (by kernel_rfl) (fun _ _ _ h => h) (by rfl) ?_ (by assumption) ?_
                rotate_left 1
                · intro w hSw; (try dsimp only at hSw); go_simp; try with_reducible rfl
                simp only [Act.put, List.setIfInBounds_toArray, List.set]
                refine takeH (i := 14) (d := some 123) (v := ?_) rfl rfl (by kernel_rfl) (by kernel_rfl) (by kernel_rfl) (fun _ _ _ h => h) (by rfl) ?_ (by assumption) ?_
                rotate_left 1
                · intro w hSw; (try dsimp only at hSw); go_simp; try with_reducible rfl
                simp only [Act.put, List.setIfInBounds_toArray, List.set]
                refine takeH (i := 15) (d := some 124) (v := ?_) rfl rfl (by kernel_rfl) (by kernel_rfl) (by kernel_rfl) (fun _ _ _ h => h) (by rfl) ?_ (by assumption) ?_
                rotate_left 1
                · intro w hSw; (try dsimp only at hSw); go_simp; try with_reducible rfl
                simp only [Act.put, List.setIfInBounds_toArray, List.set]
                refine takeH (i := 16) (d := some 125) (v := ?_) rfl rfl (by kernel_rfl) (by kernel_rfl) (by kernel_rfl) (fun _ _ _ h => h) (by rfl) ?_ (by assumption) ?_
                rotate_left 1
                · intro w hSw; (try dsimp only at hSw); go_simp; try with_reducible rfl
                simp only [Act.put, List.setIfInBounds_toArray, List.set]
                refine takeH (i := 17) (d := some 126) (v := ?_) rfl rfl (by kernel_rfl) (by kernel_rfl) (by kernel_rfl) (fun _ _ _ h => h) (by rfl) ?_ (by assumption) ?_
                rotate_left 1
                · intro w hSw; (try dsimp only at hSw); go_simp; try with_reducible rfl
                simp only [Act.put, List.setIfInBounds_toArray, List.set]
                refine takeH (i := 18) (d := some 127) (v := ?_) rfl rfl (by kernel_rfl) (by kernel_rfl) (by kernel_rfl) (fun _ _ _ h => h) (by rfl) ?_ (by assumption) ?_
                rotate_left 1
                · intro w hSw; (try dsimp only at hSw); go_simp; try with_reducible rfl
                simp only [Act.put, List.setIfInBounds_toArray, List.set]
                refine takeH (i := 19) (d := some 128) (v := ?_) rfl rfl (by kernel_rfl) (by kernel_rfl) (by kernel_rfl) (fun _ _ _ h => h) (by rfl) ?_ (by assumption) ?_
                rotate_left 1
                · intro w hSw; (try dsimp only at hSw); go_simp; try with_reducible rfl
                simp only [Act.put, List.setIfInBounds_toArray, List.set]
                refine takeH (i := 20) (d := some 129) (v := ?_) rfl rfl (by kernel_rfl) (by kernel_rfl) (by kernel_rfl) (fun _ _ _ h => h) (by rfl) ?_ (by assumption) ?_
                rotate_left 1
                · intro w hSw; (try dsimp only at hSw); go_simp; try with_reducible rfl
                simp only [Act.put, List.setIfInBounds_toArray, List.set]
                refine takeH (i := 21) (d := some 130) (v := ?_) rfl rfl (by kernel_rfl) (by kernel_rfl) (by kernel_rfl) (fun _ _ _ h => h) (by rfl) ?_ (by assumption) ?_
                rotate_left 1
                · intro w hSw; (try dsimp only at hSw); go_simp; try with_reducible rfl
                simp only [Act.put, List.setIfInBounds_toArray, List.set]
                refine takeH (i := 22) (d := some 131) (v := ?_) rfl rfl (by kernel_rfl) (by kernel_rfl) (by kernel_rfl) (fun _ _ _ h => h) (by rfl) ?_ (by assumption) ?_
                rotate_left 1
                · intro w hSw; (try dsimp only at hSw); go_simp; try with_reducible rfl
                simp only [Act.put, List.setIfInBounds_toArray, List.set]
                refine takeH (i := 23) (d := some 132) (v := ?_) rfl rfl (by kernel_rfl) (by kernel_rfl) (by kernel_rfl) (fun _ _ _ h => h) (by rfl) ?_ (by assumption) ?_
                rotate_left 1
                · intro w hSw; (try dsimp only at hSw); go_simp; try with_reducible rfl
                simp only [Act.put, List.setIfInBounds_toArray, List.set]
                refine wpAnyH_done (by kernel_rfl) ?_ _
                go_wp2
                go_roundw
                case rel => exact ⟨i + 1, by omega, by go_num, below_drew HBR.out⟩
                case measure => simp [intOf]; omega
              · obtain rfl : p = i := by omega
                have HBR := Lib.hid hbr
                clear hbr
                go_wp2
                go_ret
                exact ⟨rfl, HB8.out.trans (HBR.out.mono HB8.out.size)⟩
          | some ad =>
            by_cases hm0 : m = 0
            · subst hm0
              have hC0 : C = [] := List.eq_nil_of_length_eq_zero HM2.out
              obtain rfl : k = 0 := by omega
              by_cases hc00 : c = 0
              · subst hc00
                go_wp2_with (first | (go_at_call 7; refine HGR.out.mono ?_; rintro e5 w5 ⟨rfl, rfl⟩) | fail)
                refine HAP.out.mono ?_
                rintro e6 w6 ⟨y1, rfl, hy1, hb6⟩
                clear HAP
                go_wp2_with fail
                have hb6w := HBS.out.trans (hb6.mono HBS.out.size)
                obtain ⟨ya, yc, rfl, hyc, hyn, hys, hyl⟩ := hy1 (by first | rfl | trivial)
                have HY := Lib.hid hyl
                have hCC := HCR.out.later hb6
                rw [HM2.out] at hCC
                have HCC := Lib.hid hCC
                clear hyl hys hCC hy1
                refine (HAP2.out _ hb6w _ (by rw [hC0]; exact chgsAt_nil (by omega))).mono ?_
                rintro e7 w7 ⟨y2, rfl, hy2, hb7⟩
                have hb7w := hb6w.trans (hb7.mono hb6w.size)
                have HCD := Lib.hid (HCC.out.later hb7)
                go_wp2_with fail
                refine (HAP3.out _ _ _ hb7w hy2 (by rw [hC0]; exact chgsAt_nil (by omega))).mono ?_
                rintro e8 w8 ⟨y3, rfl, hy3, hb8⟩
                have hb8w := hb7w.trans (hb8.mono hb7w.size)
                obtain ⟨za, zc, rfl, hzc, hzn, hzs, hzl⟩ := hy3
                have HZ := Lib.hid hzl
                obtain ⟨p, hp⟩ : ∃ p, N.length = p := ⟨_, rfl⟩
                rw [hp] at hyc hyn hzc hzn
                rw [hp]
                have HP := Lib.hid hp
                have hb68 := hb7.trans (hb8.mono hb7.size)
                have HB8 := Lib.hid hb8w
                have HB68 := Lib.hid hb68
                clear hzl hzs hb6 hb6w hb7 hb7w hb8 hb8w hb68 hy2 hp HAP2 HAP3 HCC HCD
                go_wp2
                go_loopw [17] (fun iv wr => ∃ i : Nat, i ≤ p ∧ iv = .int .i64 i ∧ Below w8.heap.size w8 wr) (fun iv _ => p - (intOf iv).toNat)
                case atStart => exact ⟨0, Nat.zero_le _, rfl, Below.refl _ _⟩
                case round =>
                  obtain ⟨i, hi, rfl, hbr⟩ := hrel
                  by_cases hip : i < p
                  · obtain ⟨f, hf⟩ : ∃ f, N[i]? = some f := ⟨N[i]'(by have := HP.out; omega), List.getElem?_eq_getElem _⟩
                    rcases HY.out with h | ⟨b1, o1, rfl, hlt1, hcs1⟩
                    · rw [h] at hf; simp at hf
                    rcases HZ.out with h | ⟨b2, o2, rfl, hlt2, hcs2⟩
                    · rw [h] at hf; simp at hf
                    obtain ⟨d1, d2⟩ := hcs1 i f hf
                    obtain ⟨d3, d4⟩ := hcs2 i f hf
                    have t1 : wr.drew.cell? ⟨b1, o1 + i * 2, none⟩ = some (.string f.name) := cell_later (below_drew hbr) (cell_later HB68.out d1)
                    have t2 : wr.drew.cell? ⟨b1, o1 + i * 2 + 1, none⟩ = some (.string f.text) := cell_later (below_drew hbr) (cell_later HB68.out d2)
                    have t3 : wr.drew.cell? ⟨b2, o2 + i * 2, none⟩ = some (.string f.name) := cell_later (below_drew hbr) d3
                    have t4 : wr.drew.cell? ⟨b2, o2 + i * 2 + 1, none⟩ = some (.string f.text) := cell_later (below_drew hbr) d4
                    have HBR := Lib.hid hbr
                    clear hbr d1 d2 d3 d4 hcs1 hcs2 hf
                    go_wp2
                    refine wp_region_held_drew (S := fun w' : World => w'.cell? ⟨b1, o1 + i * 2, none⟩ = some (.string f.name) ∧ w'.cell? ⟨b1, o1 + i * 2 + 1, none⟩ = some (.string f.text) ∧ w'.cell? ⟨b2, o2 + i * 2, none⟩ = some (.string f.name) ∧ w'.cell? ⟨b2, o2 + i * 2 + 1, none⟩ = some (.string f.text)) (by kernel_rfl) ⟨t1, t2, t3, t4⟩ (fun hHeld => ?_)
                    refine takeH (i := 0) (d := some 109) (v := ?_) rfl rfl (by kernel_rfl) (by kernel_rfl) (by kernel_rfl) (fun _ _ _ h => h) (by rfl) ?_ (by assumption) ?_
                    rotate_left 1
                    · intro w hSw; (try dsimp only at hSw); go_simp; try with_reducible rfl
                    simp only [Act.put, List.setIfInBounds_toArray, List.set]
                    refine takeH (i := 1) (d := some 110) (v := ?_) rfl rfl (by kernel_rfl) (by kernel_rfl) (by kernel_rfl) (fun _ _ _ h => h) (by rfl) ?_ (by assumption) ?_
                    rotate_left 1
                    · intro w hSw; (try dsimp only at hSw); go_simp; try with_reducible rfl
                    simp only [Act.put, List.setIfInBounds_toArray, List.set]
                    refine takeH (i := 2) (d := some 111) (v := ?_) rfl rfl (by kernel_rfl) (by kernel_rfl) (by kernel_rfl) (fun _ _ _ h => h) (by rfl) ?_ (by assumption) ?_
                    rotate_left 1
                    · intro w hSw; (try dsimp only at hSw); go_simp; try with_reducible rfl
                    simp only [Act.put, List.setIfInBounds_toArray, List.set]
                    refine takeH (i := 3) (d := some 112) (v := ?_) rfl rfl (by kernel_rfl) (by kernel_rfl) (by kernel_rfl) (fun _ _ _ h => h) (by rfl) ?_ (by assumption) ?_
                    rotate_left 1
                    · intro w hSw; (try dsimp only at hSw); go_simp; try with_reducible rfl
                    simp only [Act.put, List.setIfInBounds_toArray, List.set]
                    refine takeH (i := 4) (d := some 113) (v := ?_) rfl rfl (by kernel_rfl) (by kernel_rfl) (by kernel_rfl) (fun _ _ _ h => h) (by rfl) ?_ (by assumption) ?_
                    rotate_left 1
                    · intro w hSw; (try dsimp only at hSw); go_simp; try with_reducible rfl
                    simp only [Act.put, List.setIfInBounds_toArray, List.set]
                    refine takeH (i := 5) (d := some 114) (v := ?_) rfl rfl (by kernel_rfl) (by kernel_rfl) (by kernel_rfl) (fun _ _ _ h => h) (by rfl) ?_ (by assumption) ?_
                    rotate_left 1
                    · intro w hSw; (try dsimp only at hSw); go_simp; try with_reducible rfl
                    simp only [Act.put, List.setIfInBounds_toArray, List.set]
                    refine takeH (i := 6) (d := some 115) (v := ?_) rfl rfl (by kernel_rfl) (by kernel_rfl) (by kernel_rfl) (fun _ _ _ h => h) (by rfl) ?_ (by assumption) ?_
                    rotate_left 1
                    · intro w hSw; (try dsimp only at hSw); go_simp; try with_reducible rfl
                    simp only [Act.put, List.setIfInBounds_toArray, List.set]
                    refine takeH (i := 7) (d := some 116) (v := ?_) rfl rfl (by kernel_rfl) (by kernel_rfl) (by kernel_rfl) (fun _ _ _ h => h) (by rfl) ?_ (by assumption) ?_
                    rotate_left 1
                    · intro w hSw; (try dsimp only at hSw); go_simp; try with_reducible rfl
                    simp only [Act.put, List.setIfInBounds_toArray, List.set]
                    refine takeH (i := 8) (d := some 117) (v := ?_) rfl rfl (by kernel_rfl) (by kernel_rfl) (by kernel_rfl) (fun _ _ _ h => h) (by rfl) ?_ (by assumption) ?_
                    rotate_left 1
                    · intro w hSw; (try dsimp only at hSw); go_simp; try with_reducible rfl
                    simp only [Act.put, List.setIfInBounds_toArray, List.set]
                    refine takeH (i := 9) (d := some 118) (v := ?_) rfl rfl (by kernel_rfl) (by kernel_rfl) (by kernel_rfl) (fun _ _ _ h => h) (by rfl) ?_ (by assumption) ?_
                    rotate_left 1
                    · intro w hSw; (try dsimp only at hSw); go_simp; try with_reducible rfl
                    simp only [Act.put, List.setIfInBounds_toArray, List.set]
                    refine takeH (i := 10) (d := some 119) (v := ?_) rfl rfl (by kernel_rfl) (by kernel_rfl) (by kernel_rfl) (fun _ _ _ h => h) (by rfl) ?_ (by assumption) ?_
                    rotate_left 1
                    · intro w hSw; (try dsimp only at hSw); go_simp; try with_reducible rfl
                    simp only [Act.put, List.setIfInBounds_toArray, List.set]
                    refine takeH (i := 11) (d := some 120) (v := ?_) rfl rfl (by kernel_rfl) (by kernel_rfl) (by kernel_rfl) (fun _ _ _ h => h) (by rfl) ?_ (by assumption) ?_
                    rotate_left 1
                    · intro w hSw; (try dsimp only at hSw); go_simp; try with_reducible rfl
                    simp only [Act.put, List.setIfInBounds_toArray, List.set]
                    refine takeH (i := 12) (d := some 121) (v := ?_) rfl rfl (by kernel_rfl) (by kernel_rfl) (by kernel_rfl) (fun _ _ _ h => h) (by rfl) ?_ (by assumption) ?_
                    rotate_left 1
                    · intro w hSw; (try dsimp only at hSw); go_simp; try with_reducible rfl
                    simp only [Act.put, List.setIfInBounds_toArray, List.set]
                    refine takeH (i := 13) (d := some 122) (v := ?_) rfl rfl (by kernel_rfl) (by kernel_rfl) (by kernel_rfl) (fun _ _ _ h => h) (by rfl) ?_ (by assumption) ?_
                    rotate_left 1
                    · intro w hSw; (try dsimp only at hSw); go_simp; try with_reducible rfl
                    simp only [Act.put, List.setIfInBounds_toArray, List.set]
                    refine takeH (i := 14) (d := some 123) (v := ?_) rfl rfl (by kernel_rfl) (by kernel_rfl) (by kernel_rfl) (fun _ _ _ h => h) (by rfl) ?_ (by assumption) ?_
                    rotate_left 1
                    · intro w hSw; (try dsimp only at hSw); go_simp; try with_reducible rfl
                    simp only [Act.put, List.setIfInBounds_toArray, List.set]
                    refine takeH (i := 15) (d := some 124) (v := ?_) rfl rfl (by kernel_rfl) (by kernel_rfl) (by kernel_rfl) (fun _ _ _ h => h) (by rfl) ?_ (by assumption) ?_
                    rotate_left 1
                    · intro w hSw; (try dsimp only at hSw); go_simp; try with_reducible rfl
                    simp only [Act.put, List.setIfInBounds_toArray, List.set]
                    refine takeH (i := 16) (d := some 125) (v := ?_) rfl rfl (by kernel_rfl) (by kernel_rfl) (by kernel_rfl) (fun _ _ _ h => h) (by rfl) ?_ (by assumption) ?_
                    rotate_left 1
                    · intro w hSw; (try dsimp only at hSw); go_simp; try with_reducible rfl
                    simp only [Act.put, List.setIfInBounds_toArray, List.set]
                    refine takeH (i := 17) (d := some 126) (v := ?_) rfl rfl (by kernel_rfl) (by kernel_rfl) (by kernel_rfl) (fun _ _ _ h => h) (by rfl) ?_ (by assumption) ?_
                    rotate_left 1
                    · intro w hSw; (try dsimp only at hSw); go_simp; try with_reducible rfl
                    simp only [Act.put, List.setIfInBounds_toArray, List.set]
                    refine takeH (i := 18) (d := some 127) (v := ?_) rfl rfl (by kernel_rfl) (by kernel_rfl) (by kernel_rfl) (fun _ _ _ h => h) (by rfl) ?_ (by assumption) ?_
                    rotate_left 1
                    · intro w hSw; (try dsimp only at hSw); go_simp; try with_reducible rfl
                    simp only [Act.put, List.setIfInBounds_toArray, List.set]
                    refine takeH (i := 19) (d := some 128) (v := ?_) rfl rfl (by kernel_rfl) (by kernel_rfl) (by kernel_rfl) (fun _ _ _ h => h) (by rfl) ?_ (by assumption) ?_
                    rotate_left 1
                    · intro w hSw; (try dsimp only at hSw); go_simp; try with_reducible rfl
                    simp only [Act.put, List.setIfInBounds_toArray, List.set]
                    refine takeH (i := 20) (d := some 129) (v := ?_) rfl rfl (by kernel_rfl) (by kernel_rfl) (by kernel_rfl) (fun _ _ _ h => h) (by rfl) ?_ (by assumption) ?_
                    rotate_left 1
                    · intro w hSw; (try dsimp only at hSw); go_simp; try with_reducible rfl
                    simp only [Act.put, List.setIfInBounds_toArray, List.set]
                    refine takeH (i := 21) (d := some 130) (v := ?_) rfl rfl (by kernel_rfl) (by kernel_rfl) (by kernel_rfl) (fun _ _ _ h => h) (by rfl) ?_ (by assumption) ?_
                    rotate_left 1
                    · intro w hSw; (try dsimp only at hSw); go_simp; try with_reducible rfl
                    simp only [Act.put, List.setIfInBounds_toArray, List.set]
                    refine takeH (i := 22) (d := some 131) (v := ?_) rfl rfl (by kernel_rfl) (by kernel_rfl) (by kernel_rfl) (fun _ _ _ h => h) (by rfl) ?_ (by assumption) ?_
                    rotate_left 1
                    · intro w hSw; (try dsimp only at hSw); go_simp; try with_reducible rfl
                    simp only [Act.put, List.setIfInBounds_toArray, List.set]
                    refine takeH (i := 23) (d := some 132) (v := ?_) rfl rfl (by kernel_rfl) (by kernel_rfl) (by kernel_rfl) (fun _ _ _ h => h) (by rfl) ?_ (by assumption) ?_
                    rotate_left 1
                    · intro w hSw; (try dsimp only at hSw); go_simp; try with_reducible rfl
                    simp only [Act.put, List.setIfInBounds_toArray, List.set]
                    refine wpAnyH_done (by kernel_rfl) ?_ _
                    go_wp2
                    go_roundw
                    case rel => exact ⟨i + 1, by omega, by go_num, below_drew HBR.out⟩
                    case measure => simp [intOf]; omega
                  · obtain rfl : p = i := by omega
                    have HBR := Lib.hid hbr
                    clear hbr
                    go_wp2
                    go_ret
                    exact ⟨rfl, HB8.out.trans (HBR.out.mono HB8.out.size)⟩
              · go_wp2_with (first | (go_at_call 7; refine HGR.out.mono ?_; rintro e5 w5 ⟨rfl, rfl⟩) | fail)
                refine HAP.out.mono ?_
                rintro e6 w6 ⟨y1, rfl, hy1, hb6⟩
                clear HAP
                go_wp2_with fail
                have hb6w := HBS.out.trans (hb6.mono HBS.out.size)
                obtain ⟨ya, yc, rfl, hyc, hyn, hys, hyl⟩ := hy1 (by first | rfl | trivial)
                have HY := Lib.hid hyl
                have hCC := HCR.out.later hb6
                rw [HM2.out] at hCC
                have HCC := Lib.hid hCC
                clear hyl hys hCC hy1
                refine (HAP2.out _ hb6w _ (by rw [hC0]; exact chgsAt_nil (by omega))).mono ?_
                rintro e7 w7 ⟨y2, rfl, hy2, hb7⟩
                have hb7w := hb6w.trans (hb7.mono hb6w.size)
                have HCD := Lib.hid (HCC.out.later hb7)
                go_wp2_with fail
                refine (HAP3.out _ _ _ hb7w hy2 (by rw [hC0]; exact chgsAt_nil (by omega))).mono ?_
                rintro e8 w8 ⟨y3, rfl, hy3, hb8⟩
                have hb8w := hb7w.trans (hb8.mono hb7w.size)
                obtain ⟨za, zc, rfl, hzc, hzn, hzs, hzl⟩ := hy3
                have HZ := Lib.hid hzl
                obtain ⟨p, hp⟩ : ∃ p, N.length = p := ⟨_, rfl⟩
                rw [hp] at hyc hyn hzc hzn
                rw [hp]
                have HP := Lib.hid hp
                have hb68 := hb7.trans (hb8.mono hb7.size)
                have HB8 := Lib.hid hb8w
                have HB68 := Lib.hid hb68
                clear hzl hzs hb6 hb6w hb7 hb7w hb8 hb8w hb68 hy2 hp HAP2 HAP3 HCC HCD
                go_wp2
                go_loopw [17] (fun iv wr => ∃ i : Nat, i ≤ p ∧ iv = .int .i64 i ∧ Below w8.heap.size w8 wr) (fun iv _ => p - (intOf iv).toNat)
                case atStart => exact ⟨0, Nat.zero_le _, rfl, Below.refl _ _⟩
                case round =>
                  obtain ⟨i, hi, rfl, hbr⟩ := hrel
                  by_cases hip : i < p
                  · obtain ⟨f, hf⟩ : ∃ f, N[i]? = some f := ⟨N[i]'(by have := HP.out; omega), List.getElem?_eq_getElem _⟩
                    rcases HY.out with h | ⟨b1, o1, rfl, hlt1, hcs1⟩
                    · rw [h] at hf; simp at hf
                    rcases HZ.out with h | ⟨b2, o2, rfl, hlt2, hcs2⟩
                    · rw [h] at hf; simp at hf
                    obtain ⟨d1, d2⟩ := hcs1 i f hf
                    obtain ⟨d3, d4⟩ := hcs2 i f hf
                    have t1 : wr.drew.cell? ⟨b1, o1 + i * 2, none⟩ = some (.string f.name) := cell_later (below_drew hbr) (cell_later HB68.out d1)
                    have t2 : wr.drew.cell? ⟨b1, o1 + i * 2 + 1, none⟩ = some (.string f.text) := cell_later (below_drew hbr) (cell_later HB68.out d2)
                    have t3 : wr.drew.cell? ⟨b2, o2 + i * 2, none⟩ = some (.string f.name) := cell_later (below_drew hbr) d3
                    have t4 : wr.drew.cell? ⟨b2, o2 + i * 2 + 1, none⟩ = some (.string f.text) := cell_later (below_drew hbr) d4
                    have HBR := Lib.hid hbr
                    clear hbr d1 d2 d3 d4 hcs1 hcs2 hf
                    go_wp2
                    refine wp_region_held_drew (S := fun w' : World => w'.cell? ⟨b1, o1 + i * 2, none⟩ = some (.string f.name) ∧ w'.cell? ⟨b1, o1 + i * 2 + 1, none⟩ = some (.string f.text) ∧ w'.cell? ⟨b2, o2 + i * 2, none⟩ = some (.string f.name) ∧ w'.cell? ⟨b2, o2 + i * 2 + 1, none⟩ = some (.string f.text)) (by kernel_rfl) ⟨t1, t2, t3, t4⟩ (fun hHeld => ?_)
                    refine takeH (i := 0) (d := some 109) (v := ?_) rfl rfl (by kernel_rfl) (by kernel_rfl) (by kernel_rfl) (fun _ _ _ h => h) (by rfl) ?_ (by assumption) ?_
                    rotate_left 1
                    · intro w hSw; (try dsimp only at hSw); go_simp; try with_reducible rfl
                    simp only [Act.put, List.setIfInBounds_toArray, List.set]
                    refine takeH (i := 1) (d := some 110) (v := ?_) rfl rfl (by kernel_rfl) (by kernel_rfl) (by kernel_rfl) (fun _ _ _ h => h) (by rfl) ?_ (by assumption) ?_
                    rotate_left 1
                    · intro w hSw; (try dsimp only at hSw); go_simp; try with_reducible rfl
                    simp only [Act.put, List.setIfInBounds_toArray, List.set]
                    refine takeH (i := 2) (d := some 111) (v := ?_) rfl rfl (by kernel_rfl) (by kernel_rfl) (by kernel_rfl) (fun _ _ _ h => h) (by rfl) ?_ (by assumption) ?_
                    rotate_left 1
                    · intro w hSw; (try dsimp only at hSw); go_simp; try with_reducible rfl
                    simp only [Act.put, List.setIfInBounds_toArray, List.set]
                    refine takeH (i := 3) (d := some 112) (v := ?_) rfl rfl (by kernel_rfl) (by kernel_rfl) (by kernel_rfl) (fun _ _ _ h => h) (by rfl) ?_ (by assumption) ?_
                    rotate_left 1
                    · intro w hSw; (try dsimp only at hSw); go_simp; try with_reducible rfl
                    simp only [Act.put, List.setIfInBounds_toArray, List.set]
                    refine takeH (i := 4) (d := some 113) (v := ?_) rfl rfl (by kernel_rfl) (by kernel_rfl) (by kernel_rfl) (fun _ _ _ h => h) (by rfl) ?_ (by assumption) ?_
                    rotate_left 1
                    · intro w hSw; (try dsimp only at hSw); go_simp; try with_reducible rfl
                    simp only [Act.put, List.setIfInBounds_toArray, List.set]
                    refine takeH (i := 5) (d := some 114) (v := ?_) rfl rfl (by kernel_rfl) (by kernel_rfl) (by kernel_rfl) (fun _ _ _ h => h) (by rfl) ?_ (by assumption) ?_
                    rotate_left 1
                    · intro w hSw; (try dsimp only at hSw); go_simp; try with_reducible rfl
                    simp only [Act.put, List.setIfInBounds_toArray, List.set]
                    refine takeH (i := 6) (d := some 115) (v := ?_) rfl rfl (by kernel_rfl) (by kernel_rfl) (by kernel_rfl) (fun _ _ _ h => h) (by rfl) ?_ (by assumption) ?_
                    rotate_left 1
                    · intro w hSw; (try dsimp only at hSw); go_simp; try with_reducible rfl
                    simp only [Act.put, List.setIfInBounds_toArray, List.set]
                    refine takeH (i := 7) (d := some 116) (v := ?_) rfl rfl (by kernel_rfl) (by kernel_rfl) (by kernel_rfl) (fun _ _ _ h => h) (by rfl) ?_ (by assumption) ?_
                    rotate_left 1
                    · intro w hSw; (try dsimp only at hSw); go_simp; try with_reducible rfl
                    simp only [Act.put, List.setIfInBounds_toArray, List.set]
                    refine takeH (i := 8) (d := some 117) (v := ?_) rfl rfl (by kernel_rfl) (by kernel_rfl) (by kernel_rfl) (fun _ _ _ h => h) (by rfl) ?_ (by assumption) ?_
                    rotate_left 1
                    · intro w hSw; (try dsimp only at hSw); go_simp; try with_reducible rfl
                    simp only [Act.put, List.setIfInBounds_toArray, List.set]
                    refine takeH (i := 9) (d := some 118) (v := ?_) rfl rfl (by kernel_rfl) (by kernel_rfl) (by kernel_rfl) (fun _ _ _ h => h) (by rfl) ?_ (by assumption) ?_
                    rotate_left 1
                    · intro w hSw; (try dsimp only at hSw); go_simp; try with_reducible rfl
                    simp only [Act.put, List.setIfInBounds_toArray, List.set]
                    refine takeH (i := 10) (d := some 119) (v := ?_) rfl rfl (by kernel_rfl) (by kernel_rfl) (by kernel_rfl) (fun _ _ _ h => h) (by rfl) ?_ (by assumption) ?_
                    rotate_left 1
                    · intro w hSw; (try dsimp only at hSw); go_simp; try with_reducible rfl
                    simp only [Act.put, List.setIfInBounds_toArray, List.set]
                    refine takeH (i := 11) (d := some 120) (v := ?_) rfl rfl (by kernel_rfl) (by kernel_rfl) (by kernel_rfl) (fun _ _ _ h => h) (by rfl) ?_ (by assumption) ?_
                    rotate_left 1
                    · intro w hSw; (try dsimp only at hSw); go_simp; try with_reducible rfl
                    simp only [Act.put, List.setIfInBounds_toArray, List.set]
                    refine takeH (i := 12) (d := some 121) (v := ?_) rfl rfl (by kernel_rfl) (by kernel_rfl) (by kernel_rfl) (fun _ _ _ h => h) (by rfl) ?_ (by assumption) ?_
                    rotate_left 1
                    · intro w hSw; (try dsimp only at hSw); go_simp; try with_reducible rfl
                    simp only [Act.put, List.setIfInBounds_toArray, List.set]
                    refine takeH (i := 13) (d := some 122) (v := ?_) rfl rfl (by kernel_rfl) (by kernel_rfl) (by kernel_rfl) (fun _ _ _ h => h) (by rfl) ?_ (by assumption) ?_
                    rotate_left 1
                    · intro w hSw; (try dsimp only at hSw); go_simp; try with_reducible rfl
                    simp only [Act.put, List.setIfInBounds_toArray, List.set]
                    refine takeH (i := 14) (d := some 123) (v := ?_) rfl rfl (by kernel_rfl) (by kernel_rfl) (by kernel_rfl) (fun _ _ _ h => h) (by rfl) ?_ (by assumption) ?_
                    rotate_left 1
                    · intro w hSw; (try dsimp only at hSw); go_simp; try with_reducible rfl
                    simp only [Act.put, List.setIfInBounds_toArray, List.set]
                    refine takeH (i := 15) (d := some 124) (v := ?_) rfl rfl (by kernel_rfl) (by kernel_rfl) (by kernel_rfl) (fun _ _ _ h => h) (by rfl) ?_ (by assumption) ?_
                    rotate_left 1
                    · intro w hSw; (try dsimp only at hSw); go_simp; try with_reducible rfl
                    simp only [Act.put, List.setIfInBounds_toArray, List.set]
                    refine takeH (i := 16) (d := some 125) (v := ?_) rfl rfl (by kernel_rfl) (by kernel_rfl) (by kernel_rfl) (fun _ _ _ h => h) (by rfl) ?_ (by assumption) ?_
                    rotate_left 1
                    · intro w hSw; (try dsimp only at hSw); go_simp; try with_reducible rfl
                    simp only [Act.put, List.setIfInBounds_toArray, List.set]
                    refine takeH (i := 17) (d := some 126) (v := ?_) rfl rfl (by kernel_rfl) (by kernel_rfl) (by kernel_rfl) (fun _ _ _ h => h) (by rfl) ?_ (by assumption) ?_
                    rotate_left 1
                    · intro w hSw; (try dsimp only at hSw); go_simp; try with_reducible rfl
                    simp only [Act.put, List.setIfInBounds_toArray, List.set]
                    refine takeH (i := 18) (d := some 127) (v := ?_) rfl rfl (by kernel_rfl) (by kernel_rfl) (by kernel_rfl) (fun _ _ _ h => h) (by rfl) ?_ (by assumption) ?_
                    rotate_left 1
                    · intro w hSw; (try dsimp only at hSw); go_simp; try with_reducible rfl
                    simp only [Act.put, List.setIfInBounds_toArray, List.set]
                    refine takeH (i := 19) (d := some 128) (v := ?_) rfl rfl (by kernel_rfl) (by kernel_rfl) (by kernel_rfl) (fun _ _ _ h => h) (by rfl) ?_ (by assumption) ?_
                    rotate_left 1
                    · intro w hSw; (try dsimp only at hSw); go_simp; try with_reducible rfl
                    simp only [Act.put, List.setIfInBounds_toArray, List.set]
                    refine takeH (i := 20) (d := some 129) (v := ?_) rfl rfl (by kernel_rfl) (by kernel_rfl) (by kernel_rfl) (fun _ _ _ h => h) (by rfl) ?_ (by assumption) ?_
                    rotate_left 1
                    · intro w hSw; (try dsimp only at hSw); go_simp; try with_reducible rfl
                    simp only [Act.put, List.setIfInBounds_toArray, List.set]
                    refine takeH (i := 21) (d := some 130) (v := ?_) rfl rfl (by kernel_rfl) (by kernel_rfl) (by kernel_rfl) (fun _ _ _ h => h) (by rfl) ?_ (by assumption) ?_
                    rotate_left 1
                    · intro w hSw; (try dsimp only at hSw); go_simp; try with_reducible rfl
                    simp only [Act.put, List.setIfInBounds_toArray, List.set]
                    refine takeH (i := 22) (d := some 131) (v := ?_) rfl rfl (by kernel_rfl) (by kernel_rfl) (by kernel_rfl) (fun _ _ _ h => h) (by rfl) ?_ (by assumption) ?_
                    rotate_left 1
                    · intro w hSw; (try dsimp only at hSw); go_simp; try with_reducible rfl
                    simp only [Act.put, List.setIfInBounds_toArray, List.set]
                    refine takeH (i := 23) (d := some 132) (v := ?_) rfl rfl (by kernel_rfl) (by kernel_rfl) (by kernel_rfl) (fun _ _ _ h => h) (by rfl) ?_ (by assumption) ?_
                    rotate_left 1
                    · intro w hSw; (try dsimp only at hSw); go_simp; try with_reducible rfl
                    simp only [Act.put, List.setIfInBounds_toArray, List.set]
                    refine wpAnyH_done (by kernel_rfl) ?_ _
                    go_wp2
                    go_roundw
                    case rel => exact ⟨i + 1, by omega, by go_num, below_drew HBR.out⟩
                    case measure => simp [intOf]; omega
                  · obtain rfl : p = i := by omega
                    have HBR := Lib.hid hbr
                    clear hbr
                    go_wp2
                    go_ret
                    exact ⟨rfl, HB8.out.trans (HBR.out.mono HB8.out.size)⟩
            · obtain ⟨b, o, hab⟩ : ∃ b o, ad = ⟨b, o, none⟩ := by
                obtain ⟨a', c', hv, _, _, _, _, h⟩ := HCX.out
                simp only [Value.slice.injEq] at hv
                rcases h with h | ⟨b, o, h, _⟩
                · have := HM2.out; rw [h] at this; simp at this; omega
                · rw [h] at hv
                  exact ⟨b, o, by simpa using hv.1⟩
              subst hab
              have hc00 : ¬ c = 0 := by omega
              by_cases hck : c = k
              · obtain rfl : m = k := by omega
                subst hck
                go_wp2_with (first | (go_at_call 7; refine HGR.out.mono ?_; rintro e5 w5 ⟨rfl, rfl⟩) | fail)
                refine HAP.out.mono ?_
                rintro e6 w6 ⟨y1, rfl, hy1, hb6⟩
                clear HAP
                go_wp2_with fail
                have hb6w := HBS.out.trans (hb6.mono HBS.out.size)
                obtain ⟨ya, yc, rfl, hyc, hyn, hys, hyl⟩ := hy1 (by first | rfl | trivial)
                have HY := Lib.hid hyl
                have hCC := HCR.out.later hb6
                rw [HM2.out] at hCC
                have HCC := Lib.hid hCC
                clear hyl hys hCC hy1
                refine (HAP2.out _ hb6w _ (by rw [List.take_of_length_le (by have := HM2.out; omega)]; exact HCC.out)).mono ?_
                rintro e7 w7 ⟨y2, rfl, hy2, hb7⟩
                have hb7w := hb6w.trans (hb7.mono hb6w.size)
                have HCD := Lib.hid (HCC.out.later hb7)
                go_wp2_with fail
                refine (HAP3.out _ _ _ hb7w hy2 (by rw [List.drop_eq_nil_of_le (by have := HM2.out; omega)]; exact chgsAt_nil (by omega))).mono ?_
                rintro e8 w8 ⟨y3, rfl, hy3, hb8⟩
                have hb8w := hb7w.trans (hb8.mono hb7w.size)
                obtain ⟨za, zc, rfl, hzc, hzn, hzs, hzl⟩ := hy3
                have HZ := Lib.hid hzl
                obtain ⟨p, hp⟩ : ∃ p, N.length = p := ⟨_, rfl⟩
                rw [hp] at hyc hyn hzc hzn
                rw [hp]
                have HP := Lib.hid hp
                have hb68 := hb7.trans (hb8.mono hb7.size)
                have HB8 := Lib.hid hb8w
                have HB68 := Lib.hid hb68
                clear hzl hzs hb6 hb6w hb7 hb7w hb8 hb8w hb68 hy2 hp HAP2 HAP3 HCC HCD
                go_wp2
                go_loopw [17] (fun iv wr => ∃ i : Nat, i ≤ p ∧ iv = .int .i64 i ∧ Below w8.heap.size w8 wr) (fun iv _ => p - (intOf iv).toNat)
                case atStart => exact ⟨0, Nat.zero_le _, rfl, Below.refl _ _⟩
                case round =>
                  obtain ⟨i, hi, rfl, hbr⟩ := hrel
                  by_cases hip : i < p
                  · obtain ⟨f, hf⟩ : ∃ f, N[i]? = some f := ⟨N[i]'(by have := HP.out; omega), List.getElem?_eq_getElem _⟩
                    rcases HY.out with h | ⟨b1, o1, rfl, hlt1, hcs1⟩
                    · rw [h] at hf; simp at hf
                    rcases HZ.out with h | ⟨b2, o2, rfl, hlt2, hcs2⟩
                    · rw [h] at hf; simp at hf
                    obtain ⟨d1, d2⟩ := hcs1 i f hf
                    obtain ⟨d3, d4⟩ := hcs2 i f hf
                    have t1 : wr.drew.cell? ⟨b1, o1 + i * 2, none⟩ = some (.string f.name) := cell_later (below_drew hbr) (cell_later HB68.out d1)
                    have t2 : wr.drew.cell? ⟨b1, o1 + i * 2 + 1, none⟩ = some (.string f.text) := cell_later (below_drew hbr) (cell_later HB68.out d2)
                    have t3 : wr.drew.cell? ⟨b2, o2 + i * 2, none⟩ = some (.string f.name) := cell_later (below_drew hbr) d3
                    have t4 : wr.drew.cell? ⟨b2, o2 + i * 2 + 1, none⟩ = some (.string f.text) := cell_later (below_drew hbr) d4
                    have HBR := Lib.hid hbr
                    clear hbr d1 d2 d3 d4 hcs1 hcs2 hf
                    go_wp2
                    refine wp_region_held_drew (S := fun w' : World => w'.cell? ⟨b1, o1 + i * 2, none⟩ = some (.string f.name) ∧ w'.cell? ⟨b1, o1 + i * 2 + 1, none⟩ = some (.string f.text) ∧ w'.cell? ⟨b2, o2 + i * 2, none⟩ = some (.string f.name) ∧ w'.cell? ⟨b2, o2 + i * 2 + 1, none⟩ = some (.string f.text)) (by kernel_rfl) ⟨t1, t2, t3, t4⟩ (fun hHeld => ?_)
                    refine takeH (i := 0) (d := some 109) (v := ?_) rfl rfl (by kernel_rfl) (by kernel_rfl) (by kernel_rfl) (fun _ _ _ h => h) (by rfl) ?_ (by assumption) ?_
                    rotate_left 1
                    · intro w hSw; (try dsimp only at hSw); go_simp; try with_reducible rfl
                    simp only [Act.put, List.setIfInBounds_toArray, List.set]
                    refine takeH (i := 1) (d := some 110) (v := ?_) rfl rfl (by kernel_rfl) (by kernel_rfl) (by kernel_rfl) (fun _ _ _ h => h) (by rfl) ?_ (by assumption) ?_
                    rotate_left 1
                    · intro w hSw; (try dsimp only at hSw); go_simp; try with_reducible rfl
                    simp only [Act.put, List.setIfInBounds_toArray, List.set]
                    refine takeH (i := 2) (d := some 111) (v := ?_) rfl rfl (by kernel_rfl) (by kernel_rfl) (by kernel_rfl) (fun _ _ _ h => h) (by rfl) ?_ (by assumption) ?_
                    rotate_left 1
                    · intro w hSw; (try dsimp only at hSw); go_simp; try with_reducible rfl
                    simp only [Act.put, List.setIfInBounds_toArray, List.set]
                    refine takeH (i := 3) (d := some 112) (v := ?_) rfl rfl (by kernel_rfl) (by kernel_rfl) (by kernel_rfl) (fun _ _ _ h => h) (by rfl) ?_ (by assumption) ?_
                    rotate_left 1
                    · intro w hSw; (try dsimp only at hSw); go_simp; try with_reducible rfl
                    simp only [Act.put, List.setIfInBounds_toArray, List.set]
                    refine takeH (i := 4) (d := some 113) (v := ?_) rfl rfl (by kernel_rfl) (by kernel_rfl) (by kernel_rfl) (fun _ _ _ h => h) (by rfl) ?_ (by assumption) ?_
                    rotate_left 1
                    · intro w hSw; (try dsimp only at hSw); go_simp; try with_reducible rfl
                    simp only [Act.put, List.setIfInBounds_toArray, List.set]
                    refine takeH (i := 5) (d := some 114) (v := ?_) rfl rfl (by kernel_rfl) (by kernel_rfl) (by kernel_rfl) (fun _ _ _ h => h) (by rfl) ?_ (by assumption) ?_
                    rotate_left 1
                    · intro w hSw; (try dsimp only at hSw); go_simp; try with_reducible rfl
                    simp only [Act.put, List.setIfInBounds_toArray, List.set]
                    refine takeH (i := 6) (d := some 115) (v := ?_) rfl rfl (by kernel_rfl) (by kernel_rfl) (by kernel_rfl) (fun _ _ _ h => h) (by rfl) ?_ (by assumption) ?_
                    rotate_left 1
                    · intro w hSw; (try dsimp only at hSw); go_simp; try with_reducible rfl
                    simp only [Act.put, List.setIfInBounds_toArray, List.set]
                    refine takeH (i := 7) (d := some 116) (v := ?_) rfl rfl (by kernel_rfl) (by kernel_rfl) (by kernel_rfl) (fun _ _ _ h => h) (by rfl) ?_ (by assumption) ?_
                    rotate_left 1
                    · intro w hSw; (try dsimp only at hSw); go_simp; try with_reducible rfl
                    simp only [Act.put, List.setIfInBounds_toArray, List.set]
                    refine takeH (i := 8) (d := some 117) (v := ?_) rfl rfl (by kernel_rfl) (by kernel_rfl) (by kernel_rfl) (fun _ _ _ h => h) (by rfl) ?_ (by assumption) ?_
                    rotate_left 1
                    · intro w hSw; (try dsimp only at hSw); go_simp; try with_reducible rfl
                    simp only [Act.put, List.setIfInBounds_toArray, List.set]
                    refine takeH (i := 9) (d := some 118) (v := ?_) rfl rfl (by kernel_rfl) (by kernel_rfl) (by kernel_rfl) (fun _ _ _ h => h) (by rfl) ?_ (by assumption) ?_
                    rotate_left 1
                    · intro w hSw; (try dsimp only at hSw); go_simp; try with_reducible rfl
                    simp only [Act.put, List.setIfInBounds_toArray, List.set]
                    refine takeH (i := 10) (d := some 119) (v := ?_) rfl rfl (by kernel_rfl) (by kernel_rfl) (by kernel_rfl) (fun _ _ _ h => h) (by rfl) ?_ (by assumption) ?_
                    rotate_left 1
                    · intro w hSw; (try dsimp only at hSw); go_simp; try with_reducible rfl
                    simp only [Act.put, List.setIfInBounds_toArray, List.set]
                    refine takeH (i := 11) (d := some 120) (v := ?_) rfl rfl (by kernel_rfl) (by kernel_rfl) (by kernel_rfl) (fun _ _ _ h => h) (by rfl) ?_ (by assumption) ?_
                    rotate_left 1
                    · intro w hSw; (try dsimp only at hSw); go_simp; try with_reducible rfl
                    simp only [Act.put, List.setIfInBounds_toArray, List.set]
                    refine takeH (i := 12) (d := some 121) (v := ?_) rfl rfl (by kernel_rfl) (by kernel_rfl) (by kernel_rfl) (fun _ _ _ h => h) (by rfl) ?_ (by assumption) ?_
                    rotate_left 1
                    · intro w hSw; (try dsimp only at hSw); go_simp; try with_reducible rfl
                    simp only [Act.put, List.setIfInBounds_toArray, List.set]
                    refine takeH (i := 13) (d := some 122) (v := ?_) rfl rfl (by kernel_rfl) (by kernel_rfl) (by kernel_rfl) (fun _ _ _ h => h) (by rfl) ?_ (by assumption) ?_
                    rotate_left 1
                    · intro w hSw; (try dsimp only at hSw); go_simp; try with_reducible rfl
                    simp only [Act.put, List.setIfInBounds_toArray, List.set]
                    refine takeH (i := 14) (d := some 123) (v := ?_) rfl rfl (by kernel_rfl) (by kernel_rfl) (by kernel_rfl) (fun _ _ _ h => h) (by rfl) ?_ (by assumption) ?_
                    rotate_left 1
                    · intro w hSw; (try dsimp only at hSw); go_simp; try with_reducible rfl
                    simp only [Act.put, List.setIfInBounds_toArray, List.set]
                    refine takeH (i := 15) (d := some 124) (v := ?_) rfl rfl (by kernel_rfl) (by kernel_rfl) (by kernel_rfl) (fun _ _ _ h => h) (by rfl) ?_ (by assumption) ?_
                    rotate_left 1
                    · intro w hSw; (try dsimp only at hSw); go_simp; try with_reducible rfl
                    simp only [Act.put, List.setIfInBounds_toArray, List.set]
                    refine takeH (i := 16) (d := some 125) (v := ?_) rfl rfl (by kernel_rfl) (by kernel_rfl) (by kernel_rfl) (fun _ _ _ h => h) (by rfl) ?_ (by assumption) ?_
                    rotate_left 1
                    · intro w hSw; (try dsimp only at hSw); go_simp; try with_reducible rfl
                    simp only [Act.put, List.setIfInBounds_toArray, List.set]
                    refine takeH (i := 17) (d := some 126) (v := ?_) rfl rfl (by kernel_rfl) (by kernel_rfl) (by kernel_rfl) (fun _ _ _ h => h) (by rfl) ?_ (by assumption) ?_
                    rotate_left 1
                    · intro w hSw; (try dsimp only at hSw); go_simp; try with_reducible rfl
                    simp only [Act.put, List.setIfInBounds_toArray, List.set]
                    refine takeH (i := 18) (d := some 127) (v := ?_) rfl rfl (by kernel_rfl) (by kernel_rfl) (by kernel_rfl) (fun _ _ _ h => h) (by rfl) ?_ (by assumption) ?_
                    rotate_left 1
                    · intro w hSw; (try dsimp only at hSw); go_simp; try with_reducible rfl
                    simp only [Act.put, List.setIfInBounds_toArray, List.set]
                    refine takeH (i := 19) (d := some 128) (v := ?_) rfl rfl (by kernel_rfl) (by kernel_rfl) (by kernel_rfl) (fun _ _ _ h => h) (by rfl) ?_ (by assumption) ?_
                    rotate_left 1
                    · intro w hSw; (try dsimp only at hSw); go_simp; try with_reducible rfl
                    simp only [Act.put, List.setIfInBounds_toArray, List.set]
                    refine takeH (i := 20) (d := some 129) (v := ?_) rfl rfl (by kernel_rfl) (by kernel_rfl) (by kernel_rfl) (fun _ _ _ h => h) (by rfl) ?_ (by assumption) ?_
                    rotate_left 1
                    · intro w hSw; (try dsimp only at hSw); go_simp; try with_reducible rfl
                    simp only [Act.put, List.setIfInBounds_toArray, List.set]
                    refine takeH (i := 21) (d := some 130) (v := ?_) rfl rfl (by kernel_rfl) (by kernel_rfl) (by kernel_rfl) (fun _ _ _ h => h) (by rfl) ?_ (by assumption) ?_
                    rotate_left 1
                    · intro w hSw; (try dsimp only at hSw); go_simp; try with_reducible rfl
                    simp only [Act.put, List.setIfInBounds_toArray, List.set]
                    refine takeH (i := 22) (d := some 131) (v := ?_) rfl rfl (by kernel_rfl) (by kernel_rfl) (by kernel_rfl) (fun _ _ _ h => h) (by rfl) ?_ (by assumption) ?_
                    rotate_left 1
                    · intro w hSw; (try dsimp only at hSw); go_simp; try with_reducible rfl
                    simp only [Act.put, List.setIfInBounds_toArray, List.set]
                    refine takeH (i := 23) (d := some 132) (v := ?_) rfl rfl (by kernel_rfl) (by kernel_rfl) (by kernel_rfl) (fun _ _ _ h => h) (by rfl) ?_ (by assumption) ?_
                    rotate_left 1
                    · intro w hSw; (try dsimp only at hSw); go_simp; try with_reducible rfl
                    simp only [Act.put, List.setIfInBounds_toArray, List.set]
                    refine wpAnyH_done (by kernel_rfl) ?_ _
                    go_wp2
                    go_roundw
                    case rel => exact ⟨i + 1, by omega, by go_num, below_drew HBR.out⟩
                    case measure => simp [intOf]; omega
                  · obtain rfl : p = i := by omega
                    have HBR := Lib.hid hbr
                    clear hbr
                    go_wp2
                    go_ret
                    exact ⟨rfl, HB8.out.trans (HBR.out.mono HB8.out.size)⟩
              · go_wp2_with (first | (go_at_call 7; refine HGR.out.mono ?_; rintro e5 w5 ⟨rfl, rfl⟩) | fail)
                refine HAP.out.mono ?_
                rintro e6 w6 ⟨y1, rfl, hy1, hb6⟩
                clear HAP
                go_wp2_with fail
                have hb6w := HBS.out.trans (hb6.mono HBS.out.size)
                obtain ⟨ya, yc, rfl, hyc, hyn, hys, hyl⟩ := hy1 (by first | rfl | trivial)
                have HY := Lib.hid hyl
                have hCC := HCR.out.later hb6
                rw [HM2.out] at hCC
                have HCC := Lib.hid hCC
                clear hyl hys hCC hy1
                refine (HAP2.out _ hb6w _ (by have h0 := HCC.out; rw [← HM2.out] at h0; exact chgsAt_take h0 _ (by have := HM2.out; omega))).mono ?_
                rintro e7 w7 ⟨y2, rfl, hy2, hb7⟩
                have hb7w := hb6w.trans (hb7.mono hb6w.size)
                have HCD := Lib.hid (HCC.out.later hb7)
                go_wp2_with fail
                refine (HAP3.out _ _ _ hb7w hy2 (by have h0 := HCD.out; rw [← HM2.out] at h0 ⊢; exact chgsAt_drop h0 _ (by have := HM2.out; omega) (fun b' o' hb' hk' => by first | (exfalso; have := HM2.out; omega) | (simp only [Option.some.injEq, Addr.mk.injEq, and_true] at hb'; rw [hb'.1, hb'.2])))).mono ?_
                rintro e8 w8 ⟨y3, rfl, hy3, hb8⟩
                have hb8w := hb7w.trans (hb8.mono hb7w.size)
                obtain ⟨za, zc, rfl, hzc, hzn, hzs, hzl⟩ := hy3
                have HZ := Lib.hid hzl
                obtain ⟨p, hp⟩ : ∃ p, N.length = p := ⟨_, rfl⟩
                rw [hp] at hyc hyn hzc hzn
                rw [hp]
                have HP := Lib.hid hp
                have hb68 := hb7.trans (hb8.mono hb7.size)
                have HB8 := Lib.hid hb8w
                have HB68 := Lib.hid hb68
                clear hzl hzs hb6 hb6w hb7 hb7w hb8 hb8w hb68 hy2 hp HAP2 HAP3 HCC HCD
                go_wp2
                go_loopw [17] (fun iv wr => ∃ i : Nat, i ≤ p ∧ iv = .int .i64 i ∧ Below w8.heap.size w8 wr) (fun iv _ => p - (intOf iv).toNat)
                case atStart => exact ⟨0, Nat.zero_le _, rfl, Below.refl _ _⟩
                case round =>
                  obtain ⟨i, hi, rfl, hbr⟩ := hrel
                  by_cases hip : i < p
                  · obtain ⟨f, hf⟩ : ∃ f, N[i]? = some f := ⟨N[i]'(by have := HP.out; omega), List.getElem?_eq_getElem _⟩
                    rcases HY.out with h | ⟨b1, o1, rfl, hlt1, hcs1⟩
                    · rw [h] at hf; simp at hf
                    rcases HZ.out with h | ⟨b2, o2, rfl, hlt2, hcs2⟩
                    · rw [h] at hf; simp at hf
                    obtain ⟨d1, d2⟩ := hcs1 i f hf
                    obtain ⟨d3, d4⟩ := hcs2 i f hf
                    have t1 : wr.drew.cell? ⟨b1, o1 + i * 2, none⟩ = some (.string f.name) := cell_later (below_drew hbr) (cell_later HB68.out d1)
                    have t2 : wr.drew.cell? ⟨b1, o1 + i * 2 + 1, none⟩ = some (.string f.text) := cell_later (below_drew hbr) (cell_later HB68.out d2)
                    have t3 : wr.drew.cell? ⟨b2, o2 + i * 2, none⟩ = some (.string f.name) := cell_later (below_drew hbr) d3
                    have t4 : wr.drew.cell? ⟨b2, o2 + i * 2 + 1, none⟩ = some (.string f.text) := cell_later (below_drew hbr) d4
                    have HBR := Lib.hid hbr
                    clear hbr d1 d2 d3 d4 hcs1 hcs2 hf
                    go_wp2
                    refine wp_region_held_drew (S := fun w' : World => w'.cell? ⟨b1, o1 + i * 2, none⟩ = some (.string f.name) ∧ w'.cell? ⟨b1, o1 + i * 2 + 1, none⟩ = some (.string f.text) ∧ w'.cell? ⟨b2, o2 + i * 2, none⟩ = some (.string f.name) ∧ w'.cell? ⟨b2, o2 + i * 2 + 1, none⟩ = some (.string f.text)) (by kernel_rfl) ⟨t1, t2, t3, t4⟩ (fun hHeld => ?_)
                    refine takeH (i := 0) (d := some 109) (v := ?_) rfl rfl (by kernel_rfl) (by kernel_rfl) (by kernel_rfl) (fun _ _ _ h => h) (by rfl) ?_ (by assumption) ?_
                    rotate_left 1
                    · intro w hSw; (try dsimp only at hSw); go_simp; try with_reducible rfl
                    simp only [Act.put, List.setIfInBounds_toArray, List.set]
                    refine takeH (i := 1) (d := some 110) (v := ?_) rfl rfl (by kernel_rfl) (by kernel_rfl) (by kernel_rfl) (fun _ _ _ h => h) (by rfl) ?_ (by assumption) ?_
                    rotate_left 1
                    · intro w hSw; (try dsimp only at hSw); go_simp; try with_reducible rfl
                    simp only [Act.put, List.setIfInBounds_toArray, List.set]
                    refine takeH (i := 2) (d := some 111) (v := ?_) rfl rfl (by kernel_rfl) (by kernel_rfl) (by kernel_rfl) (fun _ _ _ h => h) (by rfl) ?_ (by assumption) ?_
                    rotate_left 1
                    · intro w hSw; (try dsimp only at hSw); go_simp; try with_reducible rfl
                    simp only [Act.put, List.setIfInBounds_toArray, List.set]
                    refine takeH (i := 3) (d := some 112) (v := ?_) rfl rfl (by kernel_rfl) (by kernel_rfl) (by kernel_rfl) (fun _ _ _ h => h) (by rfl) ?_ (by assumption) ?_
                    rotate_left 1
                    · intro w hSw; (try dsimp only at hSw); go_simp; try with_reducible rfl
                    simp only [Act.put, List.setIfInBounds_toArray, List.set]
                    refine takeH (i := 4) (d := some 113) (v := ?_) rfl rfl (by kernel_rfl) (by kernel_rfl) (by kernel_rfl) (fun _ _ _ h => h) (by rfl) ?_ (by assumption) ?_
                    rotate_left 1
                    · intro w hSw; (try dsimp only at hSw); go_simp; try with_reducible rfl
                    simp only [Act.put, List.setIfInBounds_toArray, List.set]
                    refine takeH (i := 5) (d := some 114) (v := ?_) rfl rfl (by kernel_rfl) (by kernel_rfl) (by kernel_rfl) (fun _ _ _ h => h) (by rfl) ?_ (by assumption) ?_
                    rotate_left 1
                    · intro w hSw; (try dsimp only at hSw); go_simp; try with_reducible rfl
                    simp only [Act.put, List.setIfInBounds_toArray, List.set]
                    refine takeH (i := 6) (d := some 115) (v := ?_) rfl rfl (by kernel_rfl) (by kernel_rfl) (by kernel_rfl) (fun _ _ _ h => h) (by rfl) ?_ (by assumption) ?_
                    rotate_left 1
                    · intro w hSw; (try dsimp only at hSw); go_simp; try with_reducible rfl
                    simp only [Act.put, List.setIfInBounds_toArray, List.set]
                    refine takeH (i := 7) (d := some 116) (v := ?_) rfl rfl (by kernel_rfl) (by kernel_rfl) (by kernel_rfl) (fun _ _ _ h => h) (by rfl) ?_ (by assumption) ?_
                    rotate_left 1
                    · intro w hSw; (try dsimp only at hSw); go_simp; try with_reducible rfl
                    simp only [Act.put, List.setIfInBounds_toArray, List.set]
                    refine takeH (i := 8) (d := some 117) (v := ?_) rfl rfl (by kernel_rfl) (by kernel_rfl) (by kernel_rfl) (fun _ _ _ h => h) (by rfl) ?_ (by assumption) ?_
                    rotate_left 1
                    · intro w hSw; (try dsimp only at hSw); go_simp; try with_reducible rfl
                    simp only [Act.put, List.setIfInBounds_toArray, List.set]
                    refine takeH (i := 9) (d := some 118) (v := ?_) rfl rfl (by kernel_rfl) (by kernel_rfl) (by kernel_rfl) (fun _ _ _ h => h) (by rfl) ?_ (by assumption) ?_
                    rotate_left 1
                    · intro w hSw; (try dsimp only at hSw); go_simp; try with_reducible rfl
                    simp only [Act.put, List.setIfInBounds_toArray, List.set]
                    refine takeH (i := 10) (d := some 119) (v := ?_) rfl rfl (by kernel_rfl) (by kernel_rfl) (by kernel_rfl) (fun _ _ _ h => h) (by rfl) ?_ (by assumption) ?_
                    rotate_left 1
                    · intro w hSw; (try dsimp only at hSw); go_simp; try with_reducible rfl
                    simp only [Act.put, List.setIfInBounds_toArray, List.set]
                    refine takeH (i := 11) (d := some 120) (v := ?_) rfl rfl (by kernel_rfl) (by kernel_rfl) (by kernel_rfl) (fun _ _ _ h => h) (by rfl) ?_ (by assumption) ?_
                    rotate_left 1
                    · intro w hSw; (try dsimp only at hSw); go_simp; try with_reducible rfl
                    simp only [Act.put, List.setIfInBounds_toArray, List.set]
                    refine takeH (i := 12) (d := some 121) (v := ?_) rfl rfl (by kernel_rfl) (by kernel_rfl) (by kernel_rfl) (fun _ _ _ h => h) (by rfl) ?_ (by assumption) ?_
                    rotate_left 1
                    · intro w hSw; (try dsimp only at hSw); go_simp; try with_reducible rfl
                    simp only [Act.put, List.setIfInBounds_toArray, List.set]
                    refine takeH (i := 13) (d := some 122) (v := ?_) rfl rfl (by kernel_rfl) (by kernel_rfl) (by kernel_rfl) (fun _ _ _ h => h) (by rfl) ?_ (by assumption) ?_
                    rotate_left 1
                    · intro w hSw; (try dsimp only at hSw); go_simp; try with_reducible rfl
                    simp only [Act.put, List.setIfInBounds_toArray, List.set]
                    refine takeH (i := 14) (d := some 123) (v := ?_) rfl rfl (by kernel_rfl) (by kernel_rfl) (by kernel_rfl) (fun _ _ _ h => h) (by rfl) ?_ (by assumption) ?_
                    rotate_left 1
                    · intro w hSw; (try dsimp only at hSw); go_simp; try with_reducible rfl
                    simp only [Act.put, List.setIfInBounds_toArray, List.set]
                    refine takeH (i := 15) (d := some 124) (v := ?_) rfl rfl (by kernel_rfl) (by kernel_rfl) (by kernel_rfl) (fun _ _ _ h => h) (by rfl) ?_ (by assumption) ?_
                    rotate_left 1
                    · intro w hSw; (try dsimp only at hSw); go_simp; try with_reducible rfl
                    simp only [Act.put, List.setIfInBounds_toArray, List.set]
                    refine takeH (i := 16) (d := some 125) (v := ?_) rfl rfl (by kernel_rfl) (by kernel_rfl) (by kernel_rfl) (fun _ _ _ h => h) (by rfl) ?_ (by assumption) ?_
                    rotate_left 1
                    · intro w hSw; (try dsimp only at hSw); go_simp; try with_reducible rfl
                    simp only [Act.put, List.setIfInBounds_toArray, List.set]
                    refine takeH (i := 17) (d := some 126) (v := ?_) rfl rfl (by kernel_rfl) (by kernel_rfl) (by kernel_rfl) (fun _ _ _ h => h) (by rfl) ?_ (by assumption) ?_
                    rotate_left 1
                    · intro w hSw; (try dsimp only at hSw); go_simp; try with_reducible rfl
                    simp only [Act.put, List.setIfInBounds_toArray, List.set]
                    refine takeH (i := 18) (d := some 127) (v := ?_) rfl rfl (by kernel_rfl) (by kernel_rfl) (by kernel_rfl) (fun _ _ _ h => h) (by rfl) ?_ (by assumption) ?_
                    rotate_left 1
                    · intro w hSw; (try dsimp only at hSw); go_simp; try with_reducible rfl
                    simp only [Act.put, List.setIfInBounds_toArray, List.set]
                    refine takeH (i := 19) (d := some 128) (v := ?_) rfl rfl (by kernel_rfl) (by kernel_rfl) (by kernel_rfl) (fun _ _ _ h => h) (by rfl) ?_ (by assumption) ?_
                    rotate_left 1
                    · intro w hSw; (try dsimp only at hSw); go_simp; try with_reducible rfl
                    simp only [Act.put, List.setIfInBounds_toArray, List.set]
                    refine takeH (i := 20) (d := some 129) (v := ?_) rfl rfl (by kernel_rfl) (by kernel_rfl) (by kernel_rfl) (fun _ _ _ h => h) (by rfl) ?_ (by assumption) ?_
                    rotate_left 1
                    · intro w hSw; (try dsimp only at hSw); go_simp; try with_reducible rfl
                    simp only [Act.put, List.setIfInBounds_toArray, List.set]
                    refine takeH (i := 21) (d := some 130) (v := ?_) rfl rfl (by kernel_rfl) (by kernel_rfl) (by kernel_rfl) (fun _ _ _ h => h) (by rfl) ?_ (by assumption) ?_
                    rotate_left 1
                    · intro w hSw; (try dsimp only at hSw); go_simp; try with_reducible rfl
                    simp only [Act.put, List.setIfInBounds_toArray, List.set]
                    refine takeH (i := 22) (d := some 131) (v := ?_) rfl rfl (by kernel_rfl) (by kernel_rfl) (by kernel_rfl) (fun _ _ _ h => h) (by rfl) ?_ (by assumption) ?_
                    rotate_left 1
                    · intro w hSw; (try dsimp only at hSw); go_simp; try with_reducible rfl
                    simp only [Act.put, List.setIfInBounds_toArray, List.set]
                    refine takeH (i := 23) (d := some 132) (v := ?_) rfl rfl (by kernel_rfl) (by kernel_rfl) (by kernel_rfl) (fun _ _ _ h => h) (by rfl) ?_ (by assumption) ?_
                    rotate_left 1
                    · intro w hSw; (try dsimp only at hSw); go_simp; try with_reducible rfl
                    simp only [Act.put, List.setIfInBounds_toArray, List.set]
                    refine wpAnyH_done (by kernel_rfl) ?_ _
                    go_wp2
                    go_roundw
                    case rel => exact ⟨i + 1, by omega, by go_num, below_drew HBR.out⟩
                    case measure => simp [intOf]; omega
                  · obtain rfl : p = i := by omega
                    have HBR := Lib.hid hbr
                    clear hbr
                    go_wp2
                    go_ret
                    exact ⟨rfl, HB8.out.trans (HBR.out.mono HB8.out.size)⟩
        · have her' : (er != 0) = true := by simpa using her
          clear hgr hg hap hsz hsum hT
          go_wp2_with (first | (go_at_call 7; refine HGR.out.mono ?_; rintro e5 w5 ⟨rfl, rfl⟩) | fail)
          refine HAP.out.mono ?_
          rintro e6 w6 ⟨y1, rfl, hy1, hb6⟩
          go_wp2
          go_ret
          exact ⟨rfl, HBS.out.trans (hb6.mono HBS.out.size)⟩

end Go.Proofs.YtbodemkmjemdjaaDoor
