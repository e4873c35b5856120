/-
  Close, whatever the scope: one block alone is refused, else the innermost one goes.
-/
import Derived.Test.YtanblanoaahcfaaPlain
namespace Go.Proofs.Ytanblanoaahcfaa
open Go.RowKit

def closeNm (bl : List (List ByteArray)) (nm : ByteArray → List (Nat × Bool)) : ByteArray → List (Nat × Bool) := if bl.length = 1 then nm else closeN (bl.getD (bl.length - 1) []) nm
def closeBl (bl : List (List ByteArray)) : List (List ByteArray) := if bl.length = 1 then bl else bl.dropLast

set_option maxHeartbeats 400000 in
theorem close_one {w : World} {sb mb bv M bs ρ nm bl} (h : ScpAt w sb mb bv M bs ρ nm bl) (hl : bl.length = 1) :
    Calls Try.prog 15 #[.pointer (some ⟨sb, 0, none⟩)] w fun e w' => e = .returned (.int .i64 100) ∧ w.alloc (.cells #[.pointer (some ⟨sb, 0, none⟩)] 26) = w' := by
  obtain ⟨ba, bc, rfl, _⟩ := ownsRow_slice h.rb
  have hL : bs.length = 1 := h.len.trans hl
  have hb : Below w.heap.size w (w.alloc (.cells #[.pointer (some ⟨sb, 0, none⟩)] 26)) := (Below.refl _ w).alloc (Nat.le_refl _) _
  have c0 := cell_later hb h.c0
  have c1 := cell_later hb h.c1
  rw [hL] at c1
  have hbox : (w.alloc (.cells #[.pointer (some ⟨sb, 0, none⟩)] 26)).cell? ⟨w.heap.size, 0, none⟩ = some (.pointer (some ⟨sb, 0, none⟩)) := box_cell _ _ _ _ _ rfl
  clear hL hl h hb
  go_enter Try.func15, Try.ntmps15
  go_wp2_with (first | (go_at_call 21; refine (none_any _ _ _ c0).mono ?_; rintro e w' ⟨rfl, rfl⟩) | go_in)
  go_ret
  exact ⟨rfl, rfl⟩

theorem Bd.closed {k nm bl} (h : Bd k nm bl) : Bd k (closeNm bl nm) (closeBl bl) := by
  unfold closeNm closeBl
  by_cases e : bl.length = 1
  · rw [if_pos e, if_pos e]; exact h
  · rw [if_neg e, if_neg e]
    refine ⟨by have := h.pos; simp; omega, by have := h.len; simp; omega, fun s => ?_, fun l hl => h.each l (List.dropLast_subset _ hl)⟩
    unfold closeN
    split
    · have := h.names s; simp; omega
    · exact h.names s

theorem lastL {bl : List (List ByteArray)} (h : 1 ≤ bl.length) : bl[bl.length - 1]? = some (bl.getD (bl.length - 1) []) := by
  rw [List.getD_eq_getElem?_getD, List.getElem?_eq_getElem (by omega)]; rfl

theorem Inv.shut {nm bl} (h : Inv nm bl) (hp : 1 ≤ bl.length) : Inv (closeNm bl nm) (closeBl bl) := by
  unfold closeNm closeBl
  by_cases e : bl.length = 1
  · rw [if_pos e, if_pos e]; exact h
  · rw [if_neg e, if_neg e]
    exact h.closed (bl.length - 1) (by omega) _ (lastL hp)

theorem close_sc {w : World} {sb ρ nm bl k} (h : Sc w sb ρ nm bl) (hB : Bd k nm bl) (hI : Inv nm bl) (hk : k < 800000) :
    Calls Try.prog 15 #[.pointer (some ⟨sb, 0, none⟩)] w fun e w' => e = .returned (.int .i64 (if bl.length = 1 then 100 else 0)) ∧ Goes w sb ρ (closeNm bl nm) (closeBl bl) w' := by
  obtain ⟨mb, bv, M, bs, h⟩ := h
  unfold closeNm closeBl
  by_cases e : bl.length = 1
  · rw [if_pos e, if_pos e, if_pos e]
    refine (close_one h e).mono fun e w' ⟨h1, h2⟩ => ⟨h1, ?_⟩
    subst h2
    have hb : Below w.heap.size w (w.alloc (.cells #[.pointer (some ⟨sb, 0, none⟩)] 26)) := (Below.refl _ w).alloc (Nat.le_refl _) _
    exact ⟨ρ, ⟨mb, bv, M, bs, h.frame hb.size (fun k hk => hb.block k (h.lt k hk))⟩, ⟨⟨hb.os, hb.tape, hb.output, hb.size, fun k hk _ => hb.block k hk⟩, fun k hk => .inl hk⟩⟩
  · rw [if_neg e, if_neg e, if_neg e]
    have hp := hB.pos
    have hln := hB.len
    have hL := lastL hp
    have hLm := List.mem_of_getElem? hL
    obtain ⟨m, hm⟩ : ∃ m, bl.length = m + 2 := ⟨bl.length - 2, by omega⟩
    refine close_main h m hm (by omega) _ (by rw [show m + 1 = bl.length - 1 from by omega]; exact hL) (by have := hB.each _ hLm; omega) (hI.nodup _ hLm) (fun x hx => ?_)
    obtain ⟨t, ht⟩ := (hI.mem _ _ x hL).1 hx
    intro e2
    rw [e2] at ht
    simp at ht

end Go.Proofs.Ytanblanoaahcfaa
