/-
  What Declare does: an empty name, a name that the innermost block has, and one that it lacks.
-/
import Derived.Test.YtanblanoaahcfaaDecl
namespace Go.Proofs.Ytanblanoaahcfaa
open Go.RowKit Go.ChangeMaps Go.MapKept Go.WideMaps

def declMarks (m : Nat) (t : Bool) (l : List (Nat × Bool)) : List (Nat × Bool) :=
  if (l.getLast?).map (·.1) = some m then l.dropLast ++ [(m, t)] else l ++ [(m, t)]

set_option maxHeartbeats 400000 in
theorem declare_empty {w : World} {sb mb bv M bs ρ nm bl} (h : ScpAt w sb mb bv M bs ρ nm bl) (t : Bool) (s : ByteArray) (hs : s.toList = []) :
    Calls Try.prog 10 #[.pointer (some ⟨sb, 0, none⟩), .string s, .bool t] w fun e w' => e = .returned (.int .i64 100) ∧ w = w' := by
  have c0 := h.c0
  have H := Lib.hid h; clear h
  go_enter Try.func10, Try.ntmps10
  go_wp2_with (first | (go_at_call 21; refine (none_any _ _ _ (by assumption)).mono ?_; rintro e w' ⟨rfl, rfl⟩) | go_in)
  go_ret
  exact ⟨rfl, rfl⟩

set_option maxHeartbeats 400000 in
theorem declare_has {w : World} {sb mb bv M bs ρ nm bl} (h : ScpAt w sb mb bv M bs ρ nm bl) (t b : Bool) (s : ByteArray) (hs0 : s.toList.isEmpty = false) (hs : s.size ≤ maxLen) (g n c m : Nat) (hM : M s = some (.slice (some ⟨g, 0, none⟩) (n + 1) c)) (hn : n < 1000000)
    (hl : bl.length = m + 1) (hm : m < 1000000) (hc : w.cell? ⟨g, n * 2, none⟩ = some (.int .i64 m)) (hc1 : w.cell? ⟨g, n * 2 + 1, none⟩ = some (.bool b)) (hf : w.frozen? ⟨g, n * 2 + 1, none⟩ = false) :
    Calls Try.prog 10 #[.pointer (some ⟨sb, 0, none⟩), .string s, .bool t] w fun e w' => e = .returned (.int .i64 0) ∧ w.setCell ⟨g, n * 2 + 1, none⟩ (.bool t) = w' := by
  obtain ⟨ba, bc, rfl, _⟩ := ownsRow_slice h.rb
  have c0 := h.c0
  have c1 := h.c1
  have hL : bs.length = m + 1 := h.len.trans hl
  rw [hL] at c1
  clear hL hl
  have hmp := h.map
  have H := Lib.hid h; clear h
  have HM := Lib.hid hmp; clear hmp
  have HV := Lib.hid (show (M s).getD (.slice none 0 0) = .slice (some ⟨g, 0, none⟩) (n + 1) c from by rw [hM]; rfl)
  clear hM
  go_enter Try.func10, Try.ntmps10
  go_wp2_with (first | (go_at_call 21; refine (none_any _ _ _ (by assumption)).mono ?_; rintro e w' ⟨rfl, rfl⟩) | (at_lookup; refine wpList_look rfl _ _ rfl mb M s rfl rfl HM.out hs ?_; rw [HV.out]) | go_in)
  go_ret
  exact ⟨rfl, rfl⟩

/-- The way on which the name's marks are appended to: n = 0, or the last mark is of another block. -/
def OtherLast (w : World) (a : Option Addr) (n m : Nat) : Prop :=
  n = 0 ∨ ∃ (n' g : Nat) (k : Nat), n = n' + 1 ∧ a = some ⟨g, 0, none⟩ ∧ w.cell? ⟨g, n' * 2, none⟩ = some (.int .i64 k) ∧ ((k : Int) == m) = false

set_option maxHeartbeats 1000000 in
theorem declare_new {w : World} {sb mb bv M bs ρ nm bl} (h : ScpAt w sb mb bv M bs ρ nm bl) (t : Bool) (s : ByteArray) (hs0 : s.toList.isEmpty = false) (hs : s.size ≤ maxLen) (a : Option Addr) (n c : Nat) (hnm : (nm s).length = n) (hv : (M s).getD (.slice none 0 0) = .slice a n c) (m : Nat)
    (hcase : OtherLast w a n m) (hn : n < 1000000)
    (hl : bl.length = m + 1) (hm : m < 1000000) (u : Value) (l : List ByteArray) (hbu : bs[m]? = some u) (hbl : bl[m]? = some l) (hll : l.length < 1000000) :
    Calls Try.prog 10 #[.pointer (some ⟨sb, 0, none⟩), .string s, .bool t] w fun e w' => e = .returned (.int .i64 0) ∧ Goes w sb ρ (fun k => if k = s then nm s ++ [(m, t)] else nm k) (bl.set m (l ++ [s])) w' := by
  have hrl := h.rl m u l hbu hbl
  have hru := ownsRow_slice hrl
  obtain ⟨ua, uc, rfl, _⟩ := hru
  have hrb := h.rb
  have hL : bs.length = m + 1 := h.len.trans hl
  obtain ⟨gb, bc, rfl⟩ : ∃ gb bc, bv = .slice (some ⟨gb, 0, none⟩) bs.length bc := by
    obtain ⟨g, cap, e, _, _⟩ := hrb.form (by omega)
    exact ⟨g, cap, e⟩
  have c0 := h.c0
  have c1 := h.c1
  have cb : w.cell? ⟨gb, m, none⟩ = some (.slice ua l.length uc) := by
    have := hrb.cells (g := gb) rfl m _ hbu
    rw [cellAdd] at this
    exact this
  have hown := h.row s
  rw [hv, hnm] at hown
  rw [hL] at c1
  have hmp := h.map
  have hne0 := World.new_ne w _ c0
  have hne1 := World.new_ne w _ cb
  -- the first region
  have reg := fun o g1 cap1 w1 hown hg hat hlt => declare_reg h s hs (n + 1) (nm s ++ [(m, t)]) _ hv o g1 cap1 w1 hown (by simp [hnm]) hg hat hlt
  -- the second
  have reg2 : ∀ (w2 : World) M2 ρ2 nm2, ScpAt w2 sb mb (.slice (some ⟨gb, 0, none⟩) bs.length bc) M2 bs ρ2 nm2 bl → ∀ o g1 cap1 w3, w3.ownsRow 0 9 1 (.slice (some ⟨g1, 0, none⟩) (l.length + 1) cap1) (l.length + 1) ((l ++ [s]).map .string) → (w2.alloc o).drew.grownBy w3 (Value.slice ua l.length uc).ownBlock →
      ((Value.slice ua l.length uc).ownBlock = some g1 ∨ g1 = w2.heap.size + 1) → g1 < w3.heap.size → _ :=
    fun w2 M2 ρ2 nm2 h2 o g1 cap1 w3 hown hg hat hlt => declare_reg2 h2 m gb rfl _ hbu (l.length + 1) (l ++ [s]) o g1 cap1 w3 hown (by simp) hg hat hlt
  have hρ : ∀ k, ρ k = some .bv → k < w.heap.size := fun k hk => h.lt k (by rw [hk]; simp)
  have H := Lib.hid h; clear h
  have HREG := Lib.hid reg; clear reg
  have HREG2 := Lib.hid reg2; clear reg2
  have HL := Lib.hid hL; clear hL
  have Hl := Lib.hid hl; clear hl
  have HM := Lib.hid hmp; clear hmp
  have HV := Lib.hid hv; clear hv
  have HO := Lib.hid hown; clear hown
  have HB := Lib.hid hrb; clear hrb
  have HR := Lib.hid hrl; clear hrl
  have HN := Lib.hid hnm; clear hnm
  have Hbu := Lib.hid hbu; clear hbu
  have Hbl := Lib.hid hbl; clear hbl
  have Hρ := Lib.hid hρ; clear hρ
  obtain ⟨i0, hi, hz0, hz1, hz2⟩ := info_parts info48
  obtain ⟨j0, hj, hy0, hy1, hy2⟩ := info_parts info9
  have HI := Lib.hid hi; clear hi
  have HJ := Lib.hid hj; clear hj
  have HZ := Lib.hid (And.intro hz0 (And.intro hz1 hz2)); clear hz0 hz1 hz2
  have HY := Lib.hid (And.intro hy0 (And.intro hy1 hy2)); clear hy0 hy1 hy2
  rcases hcase with rfl | ⟨n', g, k, rfl, rfl, ck, hne⟩
  all_goals
    go_enter Try.func10, Try.ntmps10
    go_wp2_with (first | (go_at_call 21; refine (none_any _ _ _ (by assumption)).mono ?_; rintro e w' ⟨rfl, rfl⟩) | (at_lookup; refine wpList_look rfl _ _ rfl mb M s rfl rfl HM.out hs ?_; rw [HV.out]) | go_in)
    go_region_held3 (fun w' : World => w'.cell? ⟨sb, 0, none⟩ = some (.map (some mb))) (first | assumption | go_keep) (first
      | (refine step_append_lies _ rfl (.tmp 50) (.tmp 54) 46 rfl 0 48 i0 _ 2 16 Try.underlying46 HI.out HZ.out.1 HZ.out.2.1 HZ.out.2.2 rfl (by decide) _ _ _ rfl (HO.out.alloc _) ⟨w.heap.size, 0, none⟩ 1 1 [.int .i64 m, .bool t] rfl rfl ?_ (by simp [Value.oneCell']) (by decide) (by unfold maxLen; omega) (by omega) (Nat.zero_le _) (w.heap.size + 1) (by simp) ?_
         · exact World.news_of_block (B := w.heap.size) (cs := #[.int .i64 m, .bool t]) (t := 48) (fr := (0,0)) (heap_alloc_new w _)
         intro g1 cap1 w1 hown1 hgrow1 hat1 hlt1
         obtain ⟨hc1, w2, hrun2, hS, hT⟩ := HREG.out _ g1 cap1 w1 (by rw [cellsM_append]; exact hown1) hgrow1 hat1 hlt1
         have hd0 := hS.c0
         have hd1 := hS.c1
         rw [HL.out] at hd1
         have hd2 := hS.rb.cells (g := gb) rfl m _ Hbu.out
         rw [cellAdd] at hd2
         have HS := Lib.hid hS
         have HT := Lib.hid hT
         try simp only [Nat.zero_add] at hrun2
         clear hown1 hgrow1 hat1 hlt1 hS hT)
      | fail)
    go_wp2
    have hne2 := World.new_ne w2 _ hd1
    have hne3 := World.new_ne w2 _ hd2
    have hne4 : gb ≠ sb := by
      rintro rfl
      have := HS.out.ρs
      rw [HS.out.ρb gb rfl] at this
      simp at this
    have q1 : (0 : Int) ≤ (m : Int) := by omega
    have q2 : (m : Int) < (m : Int) + 1 := by omega
    have hne5 : sb ≠ gb := fun e => hne4 e.symm
    have hA1 : (w2.alloc (.cells #[.string s] 9)).cell? ⟨sb, 1, none⟩ = some (.slice (some ⟨gb, 0, none⟩) (m + 1) bc) := cell_later ((Below.refl w2.heap.size w2).alloc (Nat.le_refl _) _) hd1
    have hA2 : (w2.alloc (.cells #[.string s] 9)).cell? ⟨gb, m, none⟩ = some (.slice ua l.length uc) := cell_later ((Below.refl w2.heap.size w2).alloc (Nat.le_refl _) _) hd2
    go_region_law (first
      | (refine step_append_lies _ rfl (.tmp 67) (.tmp 69) 49 rfl 0 9 j0 _ 1 16 Try.underlying49 HJ.out HY.out.1 HY.out.2.1 HY.out.2.2 rfl (by decide) _ _ _ rfl ((HS.out.rl m _ l Hbu.out Hbl.out).alloc _) ⟨w2.heap.size, 0, none⟩ 1 1 [.string s] rfl rfl ?_ (by simp [Value.oneCell']) (by decide) (by unfold maxLen; omega) (by omega) (Nat.zero_le _) (w2.heap.size + 1) (by simp) ?_
         · exact World.news_of_block (B := w2.heap.size) (cs := #[.string s]) (t := 9) (fr := (0,0)) (heap_alloc_new w2 _)
         intro g2 cap2 w3 hown2 hgrow2 hat2 hlt2
         obtain ⟨e1, e2, e3, hS3, hT3⟩ := HREG2.out w2 _ _ _ HS.out _ g2 cap2 w3 (by rw [List.map_append]; exact hown2) hgrow2 hat2 hlt2
         rw [HL.out] at e1
         have HS3 := Lib.hid hS3
         have HT3 := Lib.hid hT3
         clear hown2 hgrow2 hat2 hlt2 hS3 hT3)
      | fail)
    all_goals
      go_wp2
      go_ret
      exact ⟨rfl, _, ⟨_, _, _, _, HS3.out⟩, HT.out.trans HT3.out⟩

/-- Declare: a name that is not empty. -/
theorem declare_any {w : World} {sb ρ nm bl} (hsc : Sc w sb ρ nm bl) (t : Bool) (s : ByteArray) (hs0 : s.toList.isEmpty = false) (hs : s.size ≤ maxLen) (m : Nat) (l : List ByteArray)
    (hl : bl.length = m + 1) (hbl : bl[m]? = some l) (hm : m < 1000000) (hn : (nm s).length < 1000000) (hll : l.length < 1000000) :
    Calls Try.prog 10 #[.pointer (some ⟨sb, 0, none⟩), .string s, .bool t] w fun e w' => e = .returned (.int .i64 0) ∧
      Goes w sb ρ (fun k => if k = s then declMarks m t (nm s) else nm k) (if ((nm s).getLast?).map (·.1) = some m then bl else bl.set m (l ++ [s])) w' := by
  obtain ⟨mb, bv, M, bs, h⟩ := hsc
  have hbs : bs.length = m + 1 := h.len.trans hl
  obtain ⟨u, hbu⟩ : ∃ u, bs[m]? = some u := ⟨bs[m], List.getElem?_eq_getElem (by omega)⟩
  rcases h.at s with ⟨e, a, c, hv⟩ | ⟨g, n, c, hln, hM, hρ, hf, hc1, k, hck, hk⟩
  · have hno : ¬ (([] : List (Nat × Bool)).getLast?).map (·.1) = some m := by simp
    refine (declare_new h t s hs0 hs a 0 c (by rw [e]; rfl) hv m (.inl rfl) (by omega) hl hm u l hbu hbl hll).mono fun e1 w' ⟨h1, h2⟩ => ⟨h1, ?_⟩
    rw [e] at h2 ⊢
    rw [if_neg hno]
    unfold declMarks
    rw [if_neg hno]
    exact h2
  · rw [hk]
    unfold declMarks
    rw [hk]
    by_cases hkm : k = m
    · subst hkm
      rw [if_pos rfl, if_pos rfl]
      refine (declare_has h t _ s hs0 hs g n c k hM (by omega) hl hm hck hc1 hf).mono fun e1 w' ⟨h1, h2⟩ => ⟨h1, ?_⟩
      subst h2
      have hown := h.re s _ hM
      obtain ⟨d, x, hd⟩ : ∃ d x, nm s = d ++ [x] := by
        have hne : nm s ≠ [] := by intro e; rw [e] at hln; simp at hln
        exact ⟨_, _, (List.dropLast_concat_getLast hne).symm⟩
      have hx : x.1 = k := by rw [hd] at hk; simpa using hk
      have hdl : d.length = n := by rw [hd] at hln; simpa using hln
      have hu : upd M s (.slice (some ⟨g, 0, none⟩) (n + 1) c) = M := by
        funext q
        unfold upd
        split
        · rename_i e; rw [e, hM]
        · rfl
      have hgl : g < w.heap.size := h.lt g (by rw [hρ]; simp)
      have hgm : mb ≠ g := by rintro rfl; rw [h.ρm] at hρ; simp at hρ
      refine ⟨_, ⟨mb, bv, _, bs, h.setEnt s g (n + 1) c ((nm s).dropLast ++ [(k, t)]) ?_ ?_ ?_ (.inl (by rw [hM]; rfl)) (by simpa [World.setCell] using hgl) (by simp [World.setCell])⟩, moves_if ?_ g _ (.inl (by rw [hρ]; simp))⟩
      · intro q _ hq _
        exact Below.heap_setCell _ _ _ _ (by rintro rfl; exact hq (by rw [hM]; rfl))
      · rw [hu]; exact h.map.of_block (Below.heap_setCell _ _ _ _ hgm)
      · -- the row with its last bool set anew
        rw [hd, List.dropLast_concat]
        rw [hd] at hown
        rcases hown.2 with ⟨e, _⟩ | ⟨g', cap, cur, e1, e2, e3, e4, e5, e6, e7⟩
        · cases e
        · have e1' : g' = g ∧ cap = c := by
            simp only [Value.slice.injEq, Option.some.injEq, Addr.mk.injEq] at e1
            exact ⟨e1.1.1.symm, e1.2.2.symm⟩
          obtain ⟨rfl, rfl⟩ := e1'
          refine ⟨by rw [cellsM_length], .inr ⟨g', cap, cur.setIfInBounds (n * 2 + 1) (.bool t), by simp [hdl], Nat.zero_le _, by simp [World.setCell, Array.getElem?_modify, e3], by simpa using e4, e5, by simpa using e6, ?_⟩⟩
          have hlen : (d ++ [(k, t)]).length = (d ++ [x]).length := by simp
          rw [Array.toList_setIfInBounds, List.take_set, hlen, e7, cellsM_append, cellsM_append]
          have hcd : (cellsM d).length = n * 2 := by rw [cellsM_length, hdl]
          rw [List.set_append_right _ _ (by omega), hcd, show n * 2 + 1 - n * 2 = 1 from by omega]
          simp [cellsM, hx]
      · refine ⟨rfl, rfl, rfl, by simp [World.setCell], fun q hq hr => Below.heap_setCell _ _ _ _ ?_⟩
        rintro rfl
        rw [hρ] at hr; cases hr
    · have hno : ¬ some k = some m := by simp [hkm]
      rw [if_neg hno, if_neg hno]
      exact declare_new h t s hs0 hs (some ⟨g, 0, none⟩) (n + 1) c hln (by rw [hM]; rfl) m (.inr ⟨n, g, k, rfl, rfl, hck, by simp; omega⟩) (by omega) hl hm u l hbu hbl hll

end Go.Proofs.Ytanblanoaahcfaa
