/-
  What New and Open do.
-/
import Derived.Test.YtanblanoaahcfaaDecl
import Derived.Deep.RegionLaw
namespace Go.Proofs.Ytanblanoaahcfaa
open Go.RowKit Go.ChangeMaps Go.MapKept Go.WideMaps

theorem makeBlocks (w : World) : (Instr.makeSlice 41 (.int .i64 1) (.int .i64 1)).run Try.prog w = .ok (.slice (some ⟨w.heap.size, 0, none⟩) 1 1) (w.alloc (.cells #[.slice none 0 0] 49)) := by kernel_rfl

set_option maxHeartbeats 400000 in
theorem new_world (w : World) :
    Calls Try.prog 8 #[] w fun e w' => e = .returned (.pointer (some ⟨w.heap.size + 2, 0, none⟩)) ∧
      ((w.alloc (.map #[] 0)).alloc (.cells #[.slice none 0 0] 49)).alloc (.cells #[.map (some w.heap.size), .slice (some ⟨w.heap.size + 1, 0, none⟩) 1 1] 43) = w' := by
  have hmm := @run_makeMap Try.prog
  have hms := makeBlocks
  go_enter Try.func8, Try.ntmps8
  go_wp2
  go_ret
  exact ⟨rfl, rfl⟩

def newRole (n : Nat) : Nat → Option Role := fun k => if k = n then some .map else if k = n + 1 then some .bv else if k = n + 2 then some .str else none

theorem new_any (w : World) : Calls Try.prog 8 #[] w fun e w' => ∃ sb ρ, e = .returned (.pointer (some ⟨sb, 0, none⟩)) ∧ Sc w' sb ρ (fun _ => []) [[]] ∧ Moves w w' (fun _ => none) ρ := by
  refine (new_world w).mono fun e w' ⟨h1, h2⟩ => ⟨_, newRole w.heap.size, h1, ?_⟩
  subst h2
  have z : ∀ o1 o2 o3, (((w.alloc o1).alloc o2).alloc o3).heap.size = w.heap.size + 3 := fun o1 o2 o3 => by simp
  have e0 : ∀ o1 o2 o3, (((w.alloc o1).alloc o2).alloc o3).heap[w.heap.size]? = some o1 := fun o1 o2 o3 => by
    rw [heap_alloc_old _ _ (by simp; omega), heap_alloc_old _ _ (by simp), heap_alloc_new]
  have e1 : ∀ o1 o2 o3, (((w.alloc o1).alloc o2).alloc o3).heap[w.heap.size + 1]? = some o2 := fun o1 o2 o3 => by
    rw [heap_alloc_old _ _ (by simp)]
    have := heap_alloc_new (w.alloc o1) o2
    simpa using this
  have e2 : ∀ o1 o2 o3, (((w.alloc o1).alloc o2).alloc o3).heap[w.heap.size + 2]? = some o3 := fun o1 o2 o3 => by
    have := heap_alloc_new ((w.alloc o1).alloc o2) o3
    simpa using this
  refine ⟨⟨w.heap.size, _, fun _ => none, [.slice none 0 0], ⟨e2 _ _ _, ⟨#[], 0, e0 _ _ _, stamped_empty 0, by simp, by simp⟩, ⟨by simp, .inr ⟨w.heap.size + 1, 1, _, rfl, Nat.zero_le _, e1 _ _ _, by simp, by decide, by simp, by simp⟩⟩, rfl, by simp, by simp, ?_, ?_, ?_, ?_, by simp, ?_, ?_⟩⟩, ⟨⟨rfl, rfl, rfl, by simp; omega, fun k hk _ => ?_⟩, ?_⟩⟩
  · intro i v l hv hl
    rcases i with _ | i
    · simp at hv hl; subst hv; subst hl; exact World.ownsRow_nil _ 0 9 1
    · simp at hv
  · simp [newRole]
  · simp [newRole]
  · intro g hg
    have : w.heap.size + 1 = g := by simpa [Value.ownBlock] using hg
    subst this; simp [newRole]
  · intro i v g hv hg
    rcases i with _ | i
    · simp at hv; subst hv; cases hg
    · simp at hv
  · intro k hk
    rw [z]
    unfold newRole at hk
    by_cases h0 : k = w.heap.size
    · omega
    · rw [if_neg h0] at hk
      by_cases h1 : k = w.heap.size + 1
      · omega
      · rw [if_neg h1] at hk
        by_cases h2 : k = w.heap.size + 2
        · omega
        · rw [if_neg h2] at hk; exact (hk rfl).elim
  · rw [heap_alloc_old _ _ (by simp; omega), heap_alloc_old _ _ (by simp; omega), heap_alloc_old _ _ hk]
  · intro k hk
    right
    unfold newRole at hk
    by_cases h0 : k = w.heap.size
    · omega
    · rw [if_neg h0] at hk
      by_cases h1 : k = w.heap.size + 1
      · omega
      · rw [if_neg h1] at hk
        by_cases h2 : k = w.heap.size + 2
        · omega
        · rw [if_neg h2] at hk; exact (hk rfl).elim

/-! ### Open -/
set_option maxHeartbeats 400000 in
theorem open_full {w : World} {sb mb bv M bs ρ nm bl} (h : ScpAt w sb mb bv M bs ρ nm bl) (hl : ((bl.length : Int) == 65536) = true) :
    Calls Try.prog 9 #[.pointer (some ⟨sb, 0, none⟩)] w fun e w' => e = .returned (.int .i64 4) ∧ w = w' := by
  obtain ⟨ba, bc, rfl, _⟩ := ownsRow_slice h.rb
  have c0 := h.c0
  have c1 := h.c1
  have hL : bs.length = bl.length := h.len
  rw [hL] at c1
  clear hL
  have H := Lib.hid h; clear h
  go_enter Try.func9, Try.ntmps9
  go_wp2_with (first | (go_at_call 21; refine (none_any _ _ _ (by assumption)).mono ?_; rintro e w' ⟨rfl, rfl⟩) | go_in)
  go_ret
  exact ⟨rfl, rfl⟩

/-- What Open leaves: the slice of blocks is appended to and stored. -/
theorem open_reg {w : World} {sb mb bv M bs ρ nm bl} (h : ScpAt w sb mb bv M bs ρ nm bl) (o : Obj) (g1 cap1 n : Nat) (w1 : World) (hn : bs.length = n)
    (hown : w1.ownsRow 0 49 1 (.slice (some ⟨g1, 0, none⟩) (n + 1) cap1) (n + 1) (bs ++ [.slice none 0 0]))
    (hg : (w.alloc o).grownBy w1 bv.ownBlock) (hat : bv.ownBlock = some g1 ∨ g1 = w.heap.size + 1) (hlt : g1 < w1.heap.size) :
    w1.cell? ⟨sb, 1, none⟩ = some bv ∧ w1.frozen? ⟨sb, 1, none⟩ = false ∧
      ScpAt (w1.setCell ⟨sb, 1, none⟩ (.slice (some ⟨g1, 0, none⟩) (n + 1) cap1)) sb mb (.slice (some ⟨g1, 0, none⟩) (n + 1) cap1) M (bs ++ [.slice none 0 0]) (fun k => if k = g1 then some .bv else ρ k) nm (bl ++ [[]]) ∧
      Moves w (w1.setCell ⟨sb, 1, none⟩ (.slice (some ⟨g1, 0, none⟩) (n + 1) cap1)) ρ (fun k => if k = g1 then some .bv else ρ k) := by
  have hsz1 : w.heap.size + 1 ≤ w1.heap.size := by have := hg.size; simpa using this
  have hb1 : ∀ k, k < w.heap.size → bv.ownBlock ≠ some k → w1.heap[k]? = w.heap[k]? := fun k hk hne => by
    rw [hg.block k (by simp; omega) (fun e => hne e.symm)]
    exact heap_alloc_old w o hk
  have hsv : bv.ownBlock ≠ some sb := fun e => by have := h.ρb sb e; rw [h.ρs] at this; simp at this
  have hsl : sb < w.heap.size := h.lt sb (by rw [h.ρs]; simp)
  have hg1s : g1 ≠ sb := by
    rintro rfl
    rcases hat with e | e
    · exact hsv e
    · omega
  have hstr1 : w1.heap[sb]? = some (.cells #[.map (some mb), bv] 43 (0, 0)) := (hb1 sb hsl hsv).trans h.str
  have hsize : (w1.setCell ⟨sb, 1, none⟩ (.slice (some ⟨g1, 0, none⟩) (n + 1) cap1)).heap.size = w1.heap.size := by simp [World.setCell]
  have hb2 : ∀ k, k < w.heap.size → bv.ownBlock ≠ some k → k ≠ sb → (w1.setCell ⟨sb, 1, none⟩ (.slice (some ⟨g1, 0, none⟩) (n + 1) cap1)).heap[k]? = w.heap[k]? := fun k hk h1 h2 => by
    rw [Below.heap_setCell _ _ _ _ h2, hb1 k hk h1]
  refine ⟨by simp [World.cell?, hstr1], by simp [World.frozen?, hstr1], h.setBv g1 _ cap1 _ _ (by simp [World.setCell, Array.getElem?_modify, hstr1]) hb2 ?_ (by simp [h.len]) ?_ (hat.imp id (by omega)) (by omega) (by omega), ?_⟩
  · rw [show (bs ++ [Value.slice none 0 0]).length = n + 1 from by simp [hn]]
    exact ownsRow_of_block hown fun k hk => by
      have : g1 = k := by simpa [Value.ownBlock] using hk
      subst this
      exact Below.heap_setCell _ _ _ _ hg1s
  · intro i v l hv hl
    rw [List.getElem?_append] at hv hl
    rw [h.len] at hv
    by_cases e : i < bl.length
    · rw [if_pos e] at hv hl
      exact .inr ⟨hv, hl⟩
    · rw [if_neg e] at hv hl
      left
      rcases hi : i - bl.length with _ | j
      · rw [hi] at hv hl; simp at hv hl; exact ⟨hv.symm, hl⟩
      · rw [hi] at hv; simp at hv
  · refine moves_if ?_ g1 _ (hat.imp (fun e => by rw [h.ρb g1 e]; simp) (by omega))
    refine ⟨hg.os, hg.tape, hg.output, by omega, fun k hk hr => hb2 k hk ?_ ?_⟩
    · intro e; have := h.ρb k e; rw [hr] at this; cases this
    · rintro rfl; rw [h.ρs] at hr; cases hr

set_option maxHeartbeats 1000000 in
theorem open_room {w : World} {sb mb bv M bs ρ nm bl} (h : ScpAt w sb mb bv M bs ρ nm bl) (hl : ((bl.length : Int) == 65536) = false) (hle : bl.length < 1000000) :
    Calls Try.prog 9 #[.pointer (some ⟨sb, 0, none⟩)] w fun e w' => e = .returned (.int .i64 0) ∧ Goes w sb ρ nm (bl ++ [[]]) w' := by
  obtain ⟨ba, bc, rfl, _⟩ := ownsRow_slice h.rb
  have c0 := h.c0
  have c1 := h.c1
  have hL : bs.length = bl.length := h.len
  have hrb := h.rb
  have reg := fun o g1 cap1 w1 hown hg hat hlt => open_reg h o g1 cap1 bl.length w1 h.len hown hg hat hlt
  rw [hL] at c1 hrb reg
  clear hL
  have hA1 : ∀ o, (w.alloc o).cell? ⟨sb, 1, none⟩ = some (.slice ba bl.length bc) := fun o => cell_later ((Below.refl w.heap.size w).alloc (Nat.le_refl _) _) c1
  have H := Lib.hid h; clear h
  have HREG := Lib.hid reg; clear reg
  have HB := Lib.hid hrb; clear hrb
  obtain ⟨i0, hi, hz0, hz1, hz2⟩ := info_parts info49
  have HI := Lib.hid hi; clear hi
  have HZ := Lib.hid (And.intro hz0 (And.intro hz1 hz2)); clear hz0 hz1 hz2
  go_enter Try.func9, Try.ntmps9
  have hA2 := hA1 (.cells #[.slice none 0 0] 49)
  clear hA1
  go_wp2_with (first
      | (go_at_call 21; refine (none_any _ _ _ (by assumption)).mono ?_; rintro e w' ⟨rfl, rfl⟩)
      | (at_builtin
         refine wpList_append_lies _ rfl (.tmp 15) (.tmp 16) 41 rfl 0 49 i0 _ 1 24 Try.underlying41 HI.out HZ.out.1 HZ.out.2.1 HZ.out.2.2 rfl (by decide) _ _ _ rfl (HB.out.alloc _) ⟨w.heap.size, 0, none⟩ 1 1 [.slice none 0 0] rfl rfl ?_ (by simp [Value.oneCell']) (by decide) (by unfold maxLen; omega) (by omega) (Nat.zero_le _) (w.heap.size + 1) (by simp) ?_
         · exact World.news_of_block (B := w.heap.size) (cs := #[.slice none 0 0]) (t := 49) (fr := (0,0)) (heap_alloc_new w _)
         intro g2 cap2 w3 hown2 hgrow2 hat2 hlt2
         obtain ⟨e1, e2, hS3, hT3⟩ := HREG.out _ g2 cap2 w3 hown2 hgrow2 hat2 hlt2
         have HS3 := Lib.hid hS3
         have HT3 := Lib.hid hT3
         clear hown2 hgrow2 hat2 hlt2 hS3 hT3)
      | go_in)
  go_ret
  exact ⟨rfl, _, ⟨_, _, _, _, HS3.out⟩, HT3.out⟩

theorem open_any {w : World} {sb ρ nm bl} (hsc : Sc w sb ρ nm bl) (hle : bl.length < 1000000) :
    Calls Try.prog 9 #[.pointer (some ⟨sb, 0, none⟩)] w fun e w' => e = .returned (.int .i64 (if bl.length = 65536 then 4 else 0)) ∧ Goes w sb ρ nm (if bl.length = 65536 then bl else bl ++ [[]]) w' := by
  obtain ⟨mb, bv, M, bs, h⟩ := hsc
  by_cases e : bl.length = 65536
  · rw [if_pos e, if_pos e]
    refine (open_full h (by simp; omega)).mono fun e w' ⟨h1, h2⟩ => ⟨h1, ?_⟩
    subst h2
    exact ⟨ρ, ⟨_, _, _, _, h⟩, Moves.refl w ρ⟩
  · rw [if_neg e, if_neg e]
    exact open_room h (by simp; omega) hle

end Go.Proofs.Ytanblanoaahcfaa
