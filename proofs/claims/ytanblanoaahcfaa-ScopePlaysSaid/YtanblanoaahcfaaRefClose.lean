/-
  The reference's Close: what lies in the innermost block is left out of the list.
-/
import Derived.Test.YtanblanoaahcfaaRefDecl
import Derived.WalkSmall
namespace Go.Proofs.Ytanblanoaahcfaa
open Go.RowKit Go.ChangeMaps Go.MapKept Go.WideMaps

/-- What Close leaves of the list, where m blocks are left. -/
def outerA (m : Nat) (all : List SaidT) : List SaidT := all.filter (fun x => decide (x.1 < m))

theorem outerA_take (m : Nat) (all : List SaidT) (k : Nat) (x : SaidT) (hx : all[k]? = some x) : outerA m (all.take (k + 1)) = if x.1 < m then outerA m (all.take k) ++ [x] else outerA m (all.take k) := by
  unfold outerA
  rw [List.take_add_one, hx, List.filter_append]
  by_cases h : x.1 < m
  · simp [h]
  · simp [h]

theorem outerA_length (m : Nat) (all : List SaidT) : (outerA m all).length ≤ all.length := List.length_filter_le _ _

/-- The list under way. -/
def Outer (B : Nat) (w1 wr : World) (lv : Value) (l : List SaidT) : Prop := Below B w1 wr ∧ wr.ownsRow B 57 3 lv l.length (cellsS l) ∧ (l = [] → lv = .slice none 0 0)

theorem Outer.drewN {B : Nat} {w1 wr : World} {lv : Value} {l : List SaidT} (h : Outer B w1 wr lv l) (n : Nat) : Outer B w1 (wr.drewN n) lv l :=
  ⟨drewN_below h.1 n, ownsRow_of_block h.2.1 fun _ _ => rfl, h.2.2⟩

theorem Outer.add {B : Nat} {w1 wr : World} {lv : Value} {l : List SaidT} (h : Outer B w1 wr lv l) (hB : B ≤ w1.heap.size) (x : SaidT) (o : Obj) (g2 cap2 : Nat) (w2 : World) (hown : w2.ownsRow B 57 3 (.slice (some ⟨g2, 0, none⟩) (l.length + 1) cap2) (l.length + 1) (cellsS (l ++ [x])))
    (hg : (wr.alloc o).grownBy w2 lv.ownBlock) : Outer B w1 w2 (.slice (some ⟨g2, 0, none⟩) (l.length + 1) cap2) (l ++ [x]) := by
  obtain ⟨h1, h2, h3⟩ := h
  refine ⟨(h1.alloc (by have := h1.size; omega) o).grown hg (by have := h1.size; simp; omega) (fun k e => (h2.lt k e).1), ?_, by simp⟩
  rw [show (l ++ [x]).length = l.length + 1 from by simp]
  exact hown

theorem Outer.done {w : World} {rb M M' v all ρ} (h : RefAt w rb M v all ρ) {wr : World} {lv : Value} (l : List SaidT) (ho : Outer w.heap.size (w.setCell ⟨rb, 0, none⟩ (.int .i64 (M' : Nat))) wr lv l) :
    wr.cell? ⟨rb, 1, none⟩ = some v ∧ wr.frozen? ⟨rb, 1, none⟩ = false ∧ GoesR w rb ρ M' l (wr.setCell ⟨rb, 1, none⟩ lv) := by
  obtain ⟨h1, h2, h3⟩ := ho
  have hrb : rb < w.heap.size := h.lt rb (by rw [h.ρs]; simp)
  have hsz : w.heap.size ≤ wr.heap.size := by have := h1.size; simpa [World.setCell] using this
  have hstr : wr.heap[rb]? = some (.cells #[.int .i64 M', v] 35 (0, 0)) := by
    rw [h1.block rb hrb]
    simp [World.setCell, Array.getElem?_modify, h.str]
  have hlv : ∀ g, lv.ownBlock = some g → w.heap.size ≤ g ∧ g < wr.heap.size := h2.lt
  refine ⟨by simp [World.cell?, hstr], by simp [World.frozen?, hstr], fun k => if lv.ownBlock = some k then some .bv else ρ k, ⟨lv, ⟨by simp [World.setCell, Array.getElem?_modify, hstr], ?_, h3, ?_, ?_, ?_⟩⟩, ⟨⟨h1.os, h1.tape, h1.output, by simp [World.setCell]; omega, ?_⟩, ?_⟩⟩
  · exact ownsRow_of_block (ownsRow_base h2 (Nat.zero_le _)) fun k hk => Below.heap_setCell _ _ _ _ (by have := hlv k hk; show k ≠ rb; omega)
  · have : ¬ lv.ownBlock = some rb := fun e => by have := hlv rb e; omega
    simp only [if_neg this]; exact h.ρs
  · intro g hg
    simp [hg]
  · intro k hk
    simp only [World.setCell, Array.size_modify]
    by_cases e : lv.ownBlock = some k
    · exact (hlv k e).2
    · simp only [if_neg e] at hk
      have := h.lt k hk; omega
  · intro k hk hr
    have hne : k ≠ rb := by rintro rfl; rw [h.ρs] at hr; cases hr
    rw [Below.heap_setCell _ _ _ _ hne, h1.block k hk, Below.heap_setCell _ _ _ _ hne]
  · intro k hk
    by_cases e : lv.ownBlock = some k
    · exact .inr (hlv k e).1
    · simp only [if_neg e] at hk
      exact .inl hk

set_option maxHeartbeats 400000 in
theorem closeR_one {w : World} {rb v all ρ} (h : RefAt w rb 1 v all ρ) :
    Calls Try.prog 16 #[.pointer (some ⟨rb, 0, none⟩)] w fun e w' => e = .returned (.int .i64 100) ∧ w = w' := by
  have c0 := h.c0
  have H := Lib.hid h; clear h
  go_enter Try.func16, Try.ntmps16
  go_wp2
  go_ret
  exact ⟨rfl, rfl⟩

set_option maxHeartbeats 2000000 in
theorem closeR_main {w : World} {rb M M' v all ρ} (h : RefAt w rb M v all ρ) (hM : M = M' + 1) (hM1 : ((M : Int) == 1) = false) (hMb : M < 1000000) (n : Nat) (hN : all.length = n) (hn : n < 1000000) :
    Calls Try.prog 16 #[.pointer (some ⟨rb, 0, none⟩)] w fun e w' => e = .returned (.int .i64 0) ∧ GoesR w rb ρ M' (outerA M' all) w' := by
  have c0 := h.c0
  have f0 := h.f0
  obtain ⟨a, c, rfl, _⟩ := ownsRow_slice h.row
  rw [hN] at h
  have hrb : rb < w.heap.size := h.lt rb (by rw [h.ρs]; simp)
  have hw : IntKind.i64.wrap ((M : Int) - 1) = (M' : Int) := by rw [IntKind.wrap_i64]; omega
  clear hM
  obtain ⟨w1, hw1⟩ : ∃ w1, w.setCell ⟨rb, 0, none⟩ (.int .i64 (M' : Nat)) = w1 := ⟨_, rfl⟩
  have hsz1 : w1.heap.size = w.heap.size := by rw [← hw1]; simp [World.setCell]
  have d0 : w1.cell? ⟨rb, 0, none⟩ = some (.int .i64 M') := by rw [← hw1]; simp [World.cell?, World.setCell, Array.getElem?_modify, h.str]
  have d1 : w1.cell? ⟨rb, 1, none⟩ = some (.slice a n c) := by rw [← hw1]; simp [World.cell?, World.setCell, Array.getElem?_modify, h.str]
  have hel : ∀ (i : Nat) (x : SaidT), all[i]? = some x → ∃ g, a = some ⟨g, 0, none⟩ ∧ g < w.heap.size ∧ w1.cell? ⟨g, i * 3, none⟩ = some (.int .i64 x.1) ∧ w1.cell? ⟨g, i * 3 + 1, none⟩ = some (.string x.2.1) ∧ w1.cell? ⟨g, i * 3 + 2, none⟩ = some (.bool x.2.2) := by
    intro i x hx
    obtain ⟨g, c', e, e0, e1, e2⟩ := h.el i x hx
    obtain ⟨rfl, _, rfl⟩ : a = some ⟨g, 0, none⟩ ∧ n = all.length ∧ c = c' := by simpa using e
    have hr := h.ρv g rfl
    have hg : g < w.heap.size := h.lt g (by rw [hr]; simp)
    have hne : g ≠ rb := by rintro rfl; rw [h.ρs] at hr; cases hr
    have hb : w1.heap[g]? = w.heap[g]? := by rw [← hw1]; exact Below.heap_setCell _ _ _ _ hne
    refine ⟨g, rfl, hg, ?_, ?_, ?_⟩
    · rw [World.cell?_of_block hb]; exact e0
    · rw [World.cell?_of_block hb]; exact e1
    · rw [World.cell?_of_block hb]; exact e2
  have H := Lib.hid h; clear h
  have HEL := Lib.hid hel; clear hel
  have HN := Lib.hid hN; clear hN
  have HW1 := Lib.hid hw1; clear hw1
  obtain ⟨i0, hi, hz0, hz1, hz2⟩ := info_parts info57
  have HI := Lib.hid hi; clear hi
  have HZ := Lib.hid (And.intro hz0 (And.intro hz1 hz2)); clear hz0 hz1 hz2
  go_enter Try.func16, Try.ntmps16
  go_wp2_with fail
  rw [HW1.out]
  clear c0 f0 hw
  have D0 := Lib.hid d0
  have D1 := Lib.hid d1
  clear d0 d1
  go_loopw [3, 4] (fun lv i wr => ∃ k : Nat, k ≤ n ∧ i = .int .i64 k ∧ Outer w.heap.size w1 wr lv (outerA M' (all.take k))) (fun _ i _ => n - (intOf i).toNat)
  case atStart => exact ⟨0, Nat.zero_le _, rfl, Below.refl _ _, World.ownsRow_nil _ _ 57 3, fun _ => rfl⟩
  case round =>
    obtain ⟨k, hk, rfl, ho⟩ := hrel
    have hbl := ho.1
    have hbl := ho.1
    have e0 : wr.cell? ⟨rb, 0, none⟩ = some (.int .i64 M') := by rw [hbl.cell (p := ⟨rb, 0, none⟩) hrb]; exact D0.out
    have e1 : wr.cell? ⟨rb, 1, none⟩ = some (.slice a n c) := by rw [hbl.cell (p := ⟨rb, 1, none⟩) hrb]; exact D1.out
    by_cases hkn : k < n
    · obtain ⟨x, hx⟩ : ∃ x, all[k]? = some x := ⟨all[k]'(by have := HN.out; omega), List.getElem?_eq_getElem _⟩
      have hf := outerA_take M' all k x hx
      have hlk : (outerA M' (all.take k)).length ≤ k := Nat.le_trans (outerA_length _ _) (List.length_take_le _ _)
      obtain ⟨g, rfl, hgl, y0, y1, y2⟩ := HEL.out k x hx
      have z0 : wr.cell? ⟨g, k * 3, none⟩ = some (.int .i64 x.1) := by rw [hbl.cell (p := ⟨g, k * 3, none⟩) hgl]; exact y0
      have z1 : wr.cell? ⟨g, k * 3 + 1, none⟩ = some (.string x.2.1) := by rw [hbl.cell (p := ⟨g, k * 3 + 1, none⟩) hgl]; exact y1
      have z2 : wr.cell? ⟨g, k * 3 + 2, none⟩ = some (.bool x.2.2) := by rw [hbl.cell (p := ⟨g, k * 3 + 2, none⟩) hgl]; exact y2
      clear y0 y1 y2 hx hbl
      obtain ⟨xb, xn, xt⟩ := x
      simp only at z0 z1 z2 hf
      have HO := Lib.hid ho; clear ho
      by_cases h1 : xb < M'
      · have g1 : decide ((xb : Int) < (M' : Int)) = true := by simpa using h1
        rw [if_pos h1] at hf
        have HF := Lib.hid hf; clear hf
        go_wp2
        go_quiet (fail)
        go_wp2_with (first
          | (at_builtin
             refine wpList_append_lies _ rfl (.tmp 39) (.tmp 47) 33 rfl w.heap.size 57 i0 _ 3 32 Try.underlying33 HI.out HZ.out.1 HZ.out.2.1 HZ.out.2.2 rfl (by decide) u3 (outerA M' (all.take k)).length (cellsS (outerA M' (all.take k))) rfl ?_ ⟨wr.heap.size, 0, none⟩ 1 1 [.int .i64 xb, .string xn, .bool xt] rfl rfl ?_ (by simp [Value.oneCell']) (by decide) (by unfold maxLen; omega) (by omega) ?_ (wr.heap.size + 1) (by simp) ?_
             · exact (HO.out.drewN nq).2.1.alloc _
             · exact World.news_of_block (B := wr.heap.size) (cs := #[.int .i64 xb, .string xn, .bool xt]) (t := 57) (fr := (0,0)) (heap_alloc_new (wr.drewN nq) _)
             · have := (HO.out.drewN nq).1.size
               simp only [World.heap_drewN, hsz1] at this
               simp; omega
             intro g2 cap2 w3 hown2 hgrow2 hat2 hlt2
             have ho2 := (HO.out.drewN nq).add (by omega) (xb, xn, xt) _ g2 cap2 w3 (by rw [cellsS_append, cellsS_one]; exact hown2) hgrow2
             have HO2 := Lib.hid ho2
             clear hown2 hgrow2 hat2 hlt2 ho2)
          | go_in)
        go_roundw
        case rel => exact ⟨k + 1, by omega, by go_num, by rw [HF.out]; exact HO2.out⟩
        case measure => simp [intOf]; omega
      · have g1 : decide ((xb : Int) < (M' : Int)) = false := by simpa using h1
        rw [if_neg h1] at hf
        have HF := Lib.hid hf; clear hf
        go_wp2
        go_quiet (fail)
        go_wp2
        go_roundw
        case rel => exact ⟨k + 1, by omega, by go_num, by rw [HF.out]; exact HO.out.drewN nq⟩
        case measure => simp [intOf]; omega
    · obtain rfl : k = n := by omega
      have ht : all.take k = all := List.take_of_length_le (by have := HN.out; omega)
      rw [ht] at ho
      obtain ⟨la, lc, rfl, _⟩ := ownsRow_slice ho.2.1
      obtain ⟨q1, q2, q3⟩ := Outer.done H.out _ (by rw [HW1.out]; exact ho)
      have HQ := Lib.hid q3; clear q3
      have HO := Lib.hid ho; clear ho
      clear hkn hbl
      go_wp2
      go_ret
      exact ⟨rfl, HQ.out⟩
theorem closeR {w : World} {rb many all ρ} (h : Rf w rb ρ many all) (hp : 1 ≤ many) (hm : many < 1000000) (hn : all.length < 1000000) :
    Calls Try.prog 16 #[.pointer (some ⟨rb, 0, none⟩)] w fun e w' => e = .returned (.int .i64 (if many = 1 then 100 else 0)) ∧ GoesR w rb ρ (if many = 1 then many else many - 1) (if many = 1 then all else outerA (many - 1) all) w' := by
  obtain ⟨v, h⟩ := h
  by_cases e : many = 1
  · subst e
    refine (closeR_one h).mono fun e w' ⟨h1, h2⟩ => ⟨h1, ?_⟩
    subst h2
    exact ⟨ρ, ⟨v, h⟩, Moves.refl _ _⟩
  · rw [if_neg e, if_neg e, if_neg e]
    exact closeR_main h (by omega) (by simp; omega) hm all.length rfl hn

end Go.Proofs.Ytanblanoaahcfaa
