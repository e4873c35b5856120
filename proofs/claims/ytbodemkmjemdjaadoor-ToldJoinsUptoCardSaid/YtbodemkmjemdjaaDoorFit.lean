/-
  What edit.fit answers: whether edits fit lines.
-/
import Derived.Test.YtbodemkmjemdjaaDoorData
namespace Go.Proofs.YtbodemkmjemdjaaDoor
open Go.RowKit

/-- A row of texts. -/
def StrsAt (w : World) (v : Value) (X : List ByteArray) : Prop :=
  ∃ a c, v = .slice a X.length c ∧ X.length ≤ c ∧ c ≤ 9223372036854775807 ∧ ((X = [] ∧ a = none ∧ c = 0) ∨ ∃ b o, a = some ⟨b, o, none⟩ ∧ b < w.heap.size ∧ ∀ k x, X[k]? = some x → w.cell? ⟨b, o + k, none⟩ = some (.string x))

theorem StrsAt.later {w w' : World} {v : Value} {X : List ByteArray} (h : StrsAt w v X) (hb : Below w.heap.size w w') : StrsAt w' v X := by
  obtain ⟨a, c, hv, hc, hl, h⟩ := h
  refine ⟨a, c, hv, hc, hl, ?_⟩
  rcases h with h | ⟨b, o, ha, hlt, hk⟩
  · exact .inl h
  · exact .inr ⟨b, o, ha, Nat.lt_of_lt_of_le hlt hb.size, fun k e he => cell_later hb (hk k e he)⟩

theorem strsAt_of_row {w : World} {base e : Nat} {v : Value} {X : List ByteArray} (h : w.ownsRow base e 1 v X.length (X.map .string)) : StrsAt w v X := by
  have h0 := h
  rcases h.2 with ⟨rfl, h1⟩ | ⟨g, cap, cur, rfl, hb, hg, hn, hc, hs, ht⟩
  · exact ⟨none, 0, by rw [h1], by omega, by omega, .inl ⟨List.eq_nil_of_length_eq_zero h1, rfl, rfl⟩⟩
  · refine ⟨_, cap, rfl, hn, by unfold maxLen at hc; omega, .inr ⟨g, 0, rfl, (Array.getElem?_eq_some_iff.1 hg).1, fun k x hx => ?_⟩⟩
    have := h0.cells (g := g) rfl k (.string x) (by simp [hx])
    have e2 : (⟨g, 0, none⟩ : Addr).add k = ⟨g, k, none⟩ := by unfold Addr.add; split <;> simp_all
    rw [e2] at this
    simpa using this

/-- May an edit not be, behind a line? -/
def badEd (X : List ByteArray) (e : Ed) (last : Int) : Bool :=
  decide (e.fr ≤ last) || decide (e.tt < e.fr) || decide ((X.length : Int) < e.tt) || (decide (e.fr = e.tt) && decide (e.tx.size = 0)) || (decide (e.tt < (X.length : Int)) && !wholeF e.tx)
    || (decide (e.fr = (X.length : Int)) && decide (0 < X.length) && !wholeF (X.getLast?.getD ByteArray.empty))
def fitGo (X : List ByteArray) : Int → List Ed → Bool
  | _, [] => true
  | last, e :: E => !badEd X e last && fitGo X e.tt E
def fitF (X : List ByteArray) (E : List Ed) : Bool := fitGo X (-1) E

set_option maxHeartbeats 8000000 in
theorem fit_any (v : Value) (X : List ByteArray) (u : Value) (E : List Ed) (w : World) (hX : StrsAt w v X) (hXs : ∀ x ∈ X, x.size ≤ 9000000) (hE : EdsAt w u E) :
    Calls Tryd.prog 31 #[v, u] w fun r w' => r = .returned (.bool (fitF X E)) ∧ Below w.heap.size w w' := by
  obtain ⟨a, c, rfl, hc, hcm, hX⟩ := hX
  obtain ⟨a2, c2, rfl, hc2, hE2, hEf, hE⟩ := hE
  obtain ⟨n, hn⟩ : ∃ n, X.length = n := ⟨_, rfl⟩
  obtain ⟨m, hm⟩ : ∃ m, E.length = m := ⟨_, rfl⟩
  rw [hn] at hc ⊢
  rw [hm] at hc2 hE2 ⊢
  have HX := Lib.hid hX; clear hX
  have HE := Lib.hid hE; clear hE
  have HXS := Lib.hid hXs; clear hXs
  have HN := Lib.hid hn; clear hn
  have HM := Lib.hid hm; clear hm
  have HEF := Lib.hid hEf; clear hEf
  go_enter Tryd.func31, Tryd.ntmps31
  go_wp2
  go_loopw [5, 10] (fun l i wr => ∃ (k : Nat) (last : Int), k ≤ m ∧ i = .int .i64 k ∧ l = .int .i64 last ∧ Below w.heap.size w wr ∧ fitF X E = fitGo X last (E.drop k)) (fun _ i _ => m - (intOf i).toNat)
  case atStart => exact ⟨0, -1, Nat.zero_le _, rfl, rfl, Below.refl _ _, rfl⟩
  case round =>
    obtain ⟨k, last, hk, rfl, rfl, hb, hf⟩ := hrel
    by_cases hkm : k < m
    · obtain ⟨e, he⟩ : ∃ e, E[k]? = some e := ⟨E[k]'(by have := HM.out; omega), List.getElem?_eq_getElem _⟩
      have hdr : E.drop k = e :: E.drop (k + 1) := by
        rw [List.drop_eq_getElem_cons (by have := HM.out; omega)]
        congr 1
        exact (List.getElem?_eq_some_iff.1 he).2
      rw [hdr] at hf
      have hfit := HEF.out e (List.mem_of_getElem? he)
      rcases HE.out with h | ⟨b2, o2, rfl, hlt2, hcs⟩
      · rw [h] at he; simp at he
      obtain ⟨c1, c2', c3⟩ := hcs k e he
      have d1 := cell_later hb c1
      have d2 := cell_later hb c2'
      have d3 := cell_later hb c3
      clear c1 c2' c3 hcs
      obtain ⟨f, t, x⟩ := e
      obtain ⟨hf1, hf2, ht1, ht2, hxs⟩ := hfit
      dsimp only at d1 d2 d3 hf1 hf2 ht1 ht2 hxs
      have hbad : badEd X ⟨f, t, x⟩ last = true → fitF X E = false := fun h => by rw [hf]; simp [fitGo, h]
      have hgood : badEd X ⟨f, t, x⟩ last = false → fitF X E = fitGo X t (E.drop (k + 1)) := fun h => by rw [hf]; simp [fitGo, h]
      have HBAD := Lib.hid hbad
      have HGOOD := Lib.hid hgood
      have hB : ∀ cs, Below w.heap.size w (wr.alloc (.cells cs 46)) := fun cs => hb.alloc hb.size _
      have HB := Lib.hid hB
      have HB0 := Lib.hid hb
      have hltr : b2 < wr.heap.size := Nat.lt_of_lt_of_le hlt2 hb.size
      clear hbad hgood hf hdr he hB hb hlt2
      have hxw := whole_any x (by omega)
      by_cases h1 : f ≤ last
      · have hv : badEd X ⟨f, t, x⟩ last = true := by simp [badEd, h1]
        have HF := Lib.hid (HBAD.out hv)
        clear hv hxw
        go_wp2
        go_ret
        exact ⟨by rw [HF.out]; rfl, HB.out _⟩
      have g1 : decide (f ≤ last) = false := by simpa using h1
      by_cases h2 : t < f
      · have hv : badEd X ⟨f, t, x⟩ last = true := by simp [badEd, h2]
        have HF := Lib.hid (HBAD.out hv)
        clear hv hxw
        go_wp2
        go_ret
        exact ⟨by rw [HF.out]; rfl, HB.out _⟩
      have g2 : decide (t < f) = false := by simpa using h2
      by_cases h3 : (n : Int) < t
      · have hv : badEd X ⟨f, t, x⟩ last = true := by simp [badEd, HN.out, h3]
        have HF := Lib.hid (HBAD.out hv)
        clear hv hxw
        go_wp2
        go_ret
        exact ⟨by rw [HF.out]; rfl, HB.out _⟩
      have g3 : decide ((n : Int) < t) = false := by simpa using h3
      have hv0 : badEd X ⟨f, t, x⟩ last = ((decide (f = t) && decide (x.size = 0)) || (decide (t < (n : Int)) && !wholeF x) || (decide (f = (n : Int)) && decide (0 < n) && !wholeF (X.getLast?.getD ByteArray.empty))) := by
        simp only [badEd, HN.out, g1, g2, g3, Bool.false_or]
      have HV := Lib.hid hv0
      clear hv0
      by_cases h4 : f = t
      · subst h4
        by_cases h5 : x.size = 0
        · have hv : badEd X ⟨f, f, x⟩ last = true := by rw [HV.out]; simp [h5]
          have e5 := empty_of_size h5
          have HF := Lib.hid (HBAD.out hv)
          clear hv hxw
          go_wp2
          go_ret
          exact ⟨by rw [HF.out]; rfl, HB.out _⟩
        have e5 := full_of_size h5
        by_cases h6 : f < (n : Int)
        · have h7 : (f == (n : Int)) = false := by simp; omega
          cases hw : wholeF x with
          | false =>
            have hv : badEd X ⟨f, f, x⟩ last = true := by rw [HV.out, hw]; simp [h6]
            rw [hw] at hxw
            have HC := Lib.hid hxw
            have HF := Lib.hid (HBAD.out hv)
            clear hv hxw
            go_wp2_with (first | (go_at_call 48; refine (HC.out _).mono ?_; rintro e4 w4 ⟨rfl, rfl⟩) | go_in)
            go_ret
            exact ⟨by rw [HF.out]; rfl, HB.out _⟩
          | true =>
            have hv : badEd X ⟨f, f, x⟩ last = false := by rw [HV.out, hw]; simp [h5]; omega
            rw [hw] at hxw
            have HC := Lib.hid hxw
            have HF := Lib.hid (HGOOD.out hv)
            clear hv hxw
            go_wp2_with (first | (go_at_call 48; refine (HC.out _).mono ?_; rintro e4 w4 ⟨rfl, rfl⟩) | go_in)
            go_roundw
            case rel => exact ⟨k + 1, _, by omega, by go_num, rfl, HB.out _, HF.out⟩
            case measure => simp [intOf]; omega
        · have g6 : decide (f < (n : Int)) = false := by simpa using h6
          obtain rfl : f = (n : Int) := by omega
          by_cases h8 : 0 < n
          · obtain ⟨l, hl⟩ : ∃ l, X[n - 1]? = some l := ⟨X[n - 1]'(by have := HN.out; omega), List.getElem?_eq_getElem _⟩
            have hgl : X.getLast?.getD ByteArray.empty = l := by rw [List.getLast?_eq_getElem?, HN.out, hl]; rfl
            have hls := HXS.out l (List.mem_of_getElem? hl)
            rcases HX.out with h | ⟨b1, o1, rfl, hlt1, hcs⟩
            · have := HN.out; rw [h.1] at this; simp at this; omega
            have d4 := cell_later HB0.out (hcs (n - 1) l hl)
            have hlw := whole_any l (by omega)
            have h8' : (0 : Int) < (n : Int) := by omega
            have hltr1 : b1 < wr.heap.size := Nat.lt_of_lt_of_le hlt1 HB0.out.size
            have w8 : IntKind.i64.wrap ((n : Int) - 1) = ((n - 1 : Nat) : Int) := by rw [IntKind.wrap_i64]; omega
            clear hl hcs hlt1
            cases hw : wholeF l with
            | false =>
              have hv : badEd X ⟨(n : Int), (n : Int), x⟩ last = true := by rw [HV.out, hgl, hw]; simp [h8]
              rw [hw] at hlw
              have HC := Lib.hid hlw
              have HF := Lib.hid (HBAD.out hv)
              clear hv hxw hlw
              go_wp2_with (first | (go_at_call 48; refine (HC.out _).mono ?_; rintro e4 w4 ⟨rfl, rfl⟩) | go_in)
              go_ret
              exact ⟨by rw [HF.out]; rfl, HB.out _⟩
            | true =>
              have hv : badEd X ⟨(n : Int), (n : Int), x⟩ last = false := by rw [HV.out, hgl, hw]; simp [h5]
              rw [hw] at hlw
              have HC := Lib.hid hlw
              have HF := Lib.hid (HGOOD.out hv)
              clear hv hxw hlw
              go_wp2_with (first | (go_at_call 48; refine (HC.out _).mono ?_; rintro e4 w4 ⟨rfl, rfl⟩) | go_in)
              go_roundw
              case rel => exact ⟨k + 1, _, by omega, by go_num, rfl, HB.out _, HF.out⟩
              case measure => simp [intOf]; omega
          · obtain rfl : n = 0 := by omega
            have hv : badEd X ⟨((0 : Nat) : Int), ((0 : Nat) : Int), x⟩ last = false := by rw [HV.out]; simp [h5]
            have HF := Lib.hid (HGOOD.out hv)
            clear hv hxw
            go_wp2
            go_roundw
            case rel => exact ⟨k + 1, _, by omega, by go_num, rfl, HB.out _, HF.out⟩
            case measure => simp [intOf]; omega
      · have g4 : (f == t) = false := by simpa using h4
        have h7 : (f == (n : Int)) = false := by simp; omega
        by_cases h6 : t < (n : Int)
        · cases hw : wholeF x with
          | false =>
            have hv : badEd X ⟨f, t, x⟩ last = true := by rw [HV.out, hw]; simp [h6]
            rw [hw] at hxw
            have HC := Lib.hid hxw
            have HF := Lib.hid (HBAD.out hv)
            clear hv hxw
            go_wp2_with (first | (go_at_call 48; refine (HC.out _).mono ?_; rintro e4 w4 ⟨rfl, rfl⟩) | go_in)
            go_ret
            exact ⟨by rw [HF.out]; rfl, HB.out _⟩
          | true =>
            have hv : badEd X ⟨f, t, x⟩ last = false := by rw [HV.out, hw]; simp; omega
            rw [hw] at hxw
            have HC := Lib.hid hxw
            have HF := Lib.hid (HGOOD.out hv)
            clear hv hxw
            go_wp2_with (first | (go_at_call 48; refine (HC.out _).mono ?_; rintro e4 w4 ⟨rfl, rfl⟩) | go_in)
            go_roundw
            case rel => exact ⟨k + 1, _, by omega, by go_num, rfl, HB.out _, HF.out⟩
            case measure => simp [intOf]; omega
        · have g6 : decide (t < (n : Int)) = false := by simpa using h6
          have hv : badEd X ⟨f, t, x⟩ last = false := by rw [HV.out]; simp; omega
          have HF := Lib.hid (HGOOD.out hv)
          clear hv hxw
          go_wp2
          go_roundw
          case rel => exact ⟨k + 1, _, by omega, by go_num, rfl, HB.out _, HF.out⟩
          case measure => simp [intOf]; omega
    · obtain rfl : k = m := by omega
      have hd : E.drop k = [] := List.drop_eq_nil_of_le (by have := HM.out; omega)
      rw [hd] at hf
      have HF := Lib.hid hf
      clear hf
      go_wp2
      go_ret
      exact ⟨by rw [HF.out]; rfl, hb⟩

end Go.Proofs.YtbodemkmjemdjaaDoor
