/-
  The reference's Declare: the name is added at the list's end.
-/
import Derived.Test.YtanblanoaahcfaaRefIs
namespace Go.Proofs.Ytanblanoaahcfaa
open Go.RowKit Go.ChangeMaps Go.MapKept Go.WideMaps

theorem info57 : (Try.prog.info? 57).map (fun i => (i.zero, i.size, i.bytes)) = some (some (.agg #[.int .i64 0, .string ⟨#[]⟩, .bool false]), 3, 32) := by kernel_rfl

theorem oneCell_cellsS (l : List SaidT) : ∀ u ∈ cellsS l, u.oneCell' = true := by
  intro u hu
  unfold cellsS at hu
  rw [List.mem_flatMap] at hu
  obtain ⟨x, _, hx⟩ := hu
  simp at hx
  rcases hx with rfl | rfl | rfl <;> rfl

set_option maxHeartbeats 400000 in
theorem declR_empty {w : World} {rb m v all ρ} (h : RefAt w rb m v all ρ) (s : ByteArray) (t : Bool) (hs : s.toList.isEmpty = true) :
    Calls Try.prog 17 #[.pointer (some ⟨rb, 0, none⟩), .string s, .bool t] w fun e w' => e = .returned (.int .i64 100) ∧ w = w' := by
  have H := Lib.hid h; clear h
  go_enter Try.func17, Try.ntmps17
  go_wp2
  go_ret
  exact ⟨rfl, rfl⟩

/-- What Declare leaves: w1 is w and the copy of the list, w2 the copy appended to. -/
theorem declR_reg {w : World} {rb many v all ρ} (h : RefAt w rb many v all ρ) (x : SaidT) (w1 : World) (v1 : Value) (hb1 : Below w.heap.size w w1) (hv1 : ∀ g, v1.ownBlock = some g → w.heap.size ≤ g)
    (o : Obj) (g2 cap2 n : Nat) (w2 : World) (hn : all.length = n) (hown : w2.ownsRow 0 57 3 (.slice (some ⟨g2, 0, none⟩) (n + 1) cap2) (n + 1) (cellsS (all ++ [x])))
    (hg : (w1.alloc o).grownBy w2 v1.ownBlock) (hat : v1.ownBlock = some g2 ∨ g2 = w1.heap.size + 1) (hlt : g2 < w2.heap.size) :
    w2.cell? ⟨rb, 1, none⟩ = some v ∧ w2.frozen? ⟨rb, 1, none⟩ = false ∧ GoesR w rb ρ many (all ++ [x]) (w2.setCell ⟨rb, 1, none⟩ (.slice (some ⟨g2, 0, none⟩) (n + 1) cap2)) := by
  have hs1 := hb1.size
  have hsz : w1.heap.size + 1 ≤ w2.heap.size := by have := hg.size; simpa using this
  have hrb : rb < w.heap.size := h.lt rb (by rw [h.ρs]; simp)
  have hblk : ∀ k, k < w.heap.size → w2.heap[k]? = w.heap[k]? := fun k hk => by
    rw [hg.block k (by simp; omega) (fun e => by have := hv1 k e.symm; omega), heap_alloc_old _ _ (by omega)]
    exact hb1.block k hk
  have hstr : w2.heap[rb]? = some (.cells #[.int .i64 many, v] 35 (0, 0)) := (hblk rb hrb).trans h.str
  have hg2 : w.heap.size ≤ g2 := by
    rcases hat with e | e
    · exact hv1 g2 e
    · omega
  refine ⟨by simp [World.cell?, hstr], by simp [World.frozen?, hstr], fun k => if k = g2 then some .bv else ρ k, ⟨.slice (some ⟨g2, 0, none⟩) (n + 1) cap2, ⟨by simp [World.setCell, Array.getElem?_modify, hstr], ?_, by simp, ?_, ?_, ?_⟩⟩, moves_if ?_ g2 _ (.inr hg2)⟩
  · rw [show (all ++ [x]).length = n + 1 from by simp [hn]]
    exact ownsRow_of_block hown fun k hk => by
      have : g2 = k := by simpa [Value.ownBlock] using hk
      subst this
      exact Below.heap_setCell _ _ _ _ (by show g2 ≠ rb; omega)
  · have : rb ≠ g2 := by omega
    simp only [if_neg this]; exact h.ρs
  · intro g hg'
    have : g2 = g := by simpa [Value.ownBlock] using hg'
    subst this; simp
  · intro k hk
    simp only [World.setCell, Array.size_modify]
    by_cases e : k = g2
    · rw [e]; exact hlt
    · simp only [if_neg e] at hk
      have := h.lt k hk; omega
  · refine ⟨hg.os.trans hb1.os, hg.tape.trans hb1.tape, hg.output.trans hb1.output, by simp [World.setCell]; omega, fun k hk hr => ?_⟩
    rw [Below.heap_setCell _ _ _ _ (by rintro rfl; rw [h.ρs] at hr; cases hr)]
    exact hblk k hk

set_option maxHeartbeats 1000000 in
theorem declR_nil {w : World} {rb m v ρ} (h : RefAt w rb (m + 1) v [] ρ) (s : ByteArray) (t : Bool) (hs : s.toList.isEmpty = false) (hm : m < 1000000) :
    Calls Try.prog 17 #[.pointer (some ⟨rb, 0, none⟩), .string s, .bool t] w fun e w' => e = .returned (.int .i64 0) ∧ GoesR w rb ρ (m + 1) [(m, s, t)] w' := by
  have c0 := h.c0
  have c1 := h.c1
  have hv := h.nil rfl
  subst hv
  have reg := fun o g2 cap2 w2 hown hg hat hlt => declR_reg h (m, s, t) w (.slice none 0 0) (Below.refl _ w) (by intro g hg; cases hg) o g2 cap2 0 w2 rfl hown hg hat hlt
  have hA : ∀ o, (w.alloc o).cell? ⟨rb, 0, none⟩ = some (.int .i64 ((m + 1 : Nat) : Int)) := fun o => cell_later ((Below.refl w.heap.size w).alloc (Nat.le_refl _) _) c0
  have H := Lib.hid h; clear h
  have HREG := Lib.hid reg; clear reg
  obtain ⟨i0, hi, hz0, hz1, hz2⟩ := info_parts info57
  have HI := Lib.hid hi; clear hi
  have HZ := Lib.hid (And.intro hz0 (And.intro hz1 hz2)); clear hz0 hz1 hz2
  have hw : IntKind.i64.wrap (((m + 1 : Nat) : Int) - 1) = (m : Int) := by rw [IntKind.wrap_i64]; omega
  go_enter Try.func17, Try.ntmps17
  go_wp2_with (first
    | (at_builtin
       refine wpList_append_lies _ rfl (.tmp 17) (.tmp 26) 33 rfl 0 57 i0 _ 3 32 Try.underlying33 HI.out HZ.out.1 HZ.out.2.1 HZ.out.2.2 rfl (by decide) (.slice none 0 0) 0 [] rfl (World.ownsRow_nil _ 0 57 3) ⟨w.heap.size, 0, none⟩ 1 1 [.int .i64 m, .string s, .bool t] rfl rfl ?_ (by simp [Value.oneCell']) (by decide) (by unfold maxLen; omega) (by omega) (Nat.zero_le _) (w.heap.size + 1) (by simp) ?_
       · exact World.news_of_block (B := w.heap.size) (cs := #[.int .i64 m, .string s, .bool t]) (t := 57) (fr := (0,0)) (heap_alloc_new w _)
       intro g2 cap2 w3 hown2 hgrow2 hat2 hlt2
       obtain ⟨e1, e2, hS3⟩ := HREG.out _ g2 cap2 w3 (by rw [List.nil_append, cellsS_one]; exact hown2) hgrow2 hat2 hlt2
       have HS3 := Lib.hid hS3
       clear hown2 hgrow2 hat2 hlt2 hS3)
    | go_in)
  go_ret
  exact ⟨rfl, HS3.out⟩

set_option maxHeartbeats 1000000 in
theorem declR_some {w : World} {rb m v all ρ} (h : RefAt w rb (m + 1) v all ρ) (n : Nat) (hn : all.length = n + 1) (hn' : n < 1000000) (s : ByteArray) (t : Bool) (hs : s.toList.isEmpty = false) (hm : m < 1000000) :
    Calls Try.prog 17 #[.pointer (some ⟨rb, 0, none⟩), .string s, .bool t] w fun e w' => e = .returned (.int .i64 0) ∧ GoesR w rb ρ (m + 1) (all ++ [(m, s, t)]) w' := by
  have c0 := h.c0
  have c1 := h.c1
  obtain ⟨g, c, rfl, _, hgl⟩ := h.row.form (by omega)
  have hrb : rb < w.heap.size := h.lt rb (by rw [h.ρs]; simp)
  have reg := fun w1 g1 c1 hb1 hv1 o g2 cap2 w2 hown hg hat hlt => declR_reg h (m, s, t) w1 (.slice (some ⟨g1, 0, none⟩) (n + 1) c1) hb1 hv1 o g2 cap2 (n + 1) w2 hn hown hg hat hlt
  have hrow := h.row
  have hnews : ∀ (j : Nat) (u : Value), (cellsS all)[j]? = some u → w.cell? ((⟨g, 0, none⟩ : Addr).add j) = some u := fun j u hu => h.row.cells (g := g) rfl j u hu
  have hnl : (cellsS all).length = (n + 1) * 3 := by rw [cellsS_length, hn]
  have H := Lib.hid h; clear h
  rw [hn] at c1 hrow
  simp only [hn] at reg
  have HREG := Lib.hid reg; clear reg
  have HROW := Lib.hid hrow; clear hrow
  have HNEWS := Lib.hid hnews; clear hnews
  have HNL := Lib.hid hnl; clear hnl
  have HN := Lib.hid hn; clear hn
  obtain ⟨i0, hi, hz0, hz1, hz2⟩ := info_parts info57
  have HI := Lib.hid hi; clear hi
  have HZ := Lib.hid (And.intro hz0 (And.intro hz1 hz2)); clear hz0 hz1 hz2
  have hw : IntKind.i64.wrap (((m + 1 : Nat) : Int) - 1) = (m : Int) := by rw [IntKind.wrap_i64]; omega
  go_enter Try.func17, Try.ntmps17
  go_wp2_with (first
    | (at_builtin
       refine wpList_append_lies _ rfl (.tmp 10) (.tmp 14) 33 rfl 0 57 i0 _ 3 32 Try.underlying33 HI.out HZ.out.1 HZ.out.2.1 HZ.out.2.2 rfl (by decide) (.slice none 0 0) 0 [] rfl (World.ownsRow_nil _ 0 57 3) ⟨g, 0, none⟩ (n + 1) c (cellsS all) rfl HNL.out HNEWS.out (oneCell_cellsS all) (by omega) (by unfold maxLen; omega) (by omega) (Nat.zero_le _) w.heap.size rfl ?_
       intro g1 cap1 w1 hown1 hgrow1 hat1 hlt1
       have hg1 : g1 = w.heap.size := by simpa [Value.ownBlock] using hat1
       have hb1 : Below w.heap.size w w1 := (Below.refl _ w).grown hgrow1 (Nat.le_refl _) (by intro k hk; cases hk)
       have hd0 := cell_later hb1 c0
       have HO1 := Lib.hid hown1
       have HB1 := Lib.hid hb1
       have HG1 := Lib.hid hg1
       clear hown1 hgrow1 hat1 hlt1 hg1 hb1
       try simp only [Nat.zero_add])
    | (at_builtin
       refine wpList_append_lies _ rfl (.tmp 17) (.tmp 26) 33 rfl 0 57 i0 _ 3 32 Try.underlying33 HI.out HZ.out.1 HZ.out.2.1 HZ.out.2.2 rfl (by decide) (.slice (some ⟨g1, 0, none⟩) (n + 1) cap1) (n + 1) (cellsS all) rfl ?_ ⟨w1.heap.size, 0, none⟩ 1 1 [.int .i64 m, .string s, .bool t] rfl rfl ?_ (by simp [Value.oneCell']) (by decide) (by unfold maxLen; omega) (by omega) (Nat.zero_le _) (w1.heap.size + 1) (by simp) ?_
       · have := HO1.out
         rw [List.nil_append, Nat.zero_add] at this
         exact this.alloc _
       · exact World.news_of_block (B := w1.heap.size) (cs := #[.int .i64 m, .string s, .bool t]) (t := 57) (fr := (0,0)) (heap_alloc_new w1 _)
       intro g2 cap2 w3 hown2 hgrow2 hat2 hlt2
       obtain ⟨e1, e2, hS3⟩ := HREG.out w1 g1 cap1 HB1.out (by intro g' hg'; have := HG1.out; simp [Value.ownBlock] at hg'; omega) _ g2 cap2 w3 (by rw [cellsS_append, cellsS_one]; exact hown2) hgrow2 hat2 hlt2
       have HS3 := Lib.hid hS3
       clear hown2 hgrow2 hat2 hlt2 hS3)
    | go_in)
  go_ret
  exact ⟨rfl, HS3.out⟩

/-- What Declare makes of the list. -/
def declA (m : Nat) (s : ByteArray) (t : Bool) (all : List SaidT) : List SaidT := if s.toList.isEmpty = true then all else all ++ [(m, s, t)]

theorem declR {w : World} {rb many all ρ} (h : Rf w rb ρ many all) (hp : 1 ≤ many) (hm : many < 1000000) (hn : all.length < 1000000) (t : Bool) (s : ByteArray) :
    Calls Try.prog 17 #[.pointer (some ⟨rb, 0, none⟩), .string s, .bool t] w fun e w' => e = .returned (.int .i64 (if s.toList.isEmpty = true then 100 else 0)) ∧ GoesR w rb ρ many (declA (many - 1) s t all) w' := by
  obtain ⟨v, h⟩ := h
  obtain ⟨m, rfl⟩ : ∃ m, many = m + 1 := ⟨many - 1, by omega⟩
  unfold declA
  rw [Nat.add_sub_cancel]
  cases hs : s.toList.isEmpty with
  | true =>
    refine (declR_empty h s t hs).mono fun e w' ⟨h1, h2⟩ => ⟨by simpa using h1, ?_⟩
    subst h2
    rw [if_pos rfl]
    exact ⟨ρ, ⟨v, h⟩, Moves.refl _ _⟩
  | false =>
    rw [if_neg (by simp), if_neg (by simp)]
    cases ha : all with
    | nil => subst ha; exact declR_nil h s t hs (by omega)
    | cons x l => rw [← ha]; exact declR_some h l.length (by rw [ha]; rfl) (by rw [ha] at hn; simp at hn; omega) s t hs (by omega)

end Go.Proofs.Ytanblanoaahcfaa
