/-
  What Copy does: a scope that reads as the first one, in new memory.
-/
import Derived.Test.YtanblanoaahcfaaCopyA
import Derived.LoopTactic
import Derived.Deep.RegionHeld3
import Derived.Deep.RegionLaw
namespace Go.Proofs.Ytanblanoaahcfaa
open Go.RowKit Go.ChangeMaps Go.MapKept Go.WideMaps

theorem wpList_rngAt {ops : Array Oper} {rest : List Oper} {o : Oper} {a : Act} {Q : Exit → Act → World → Prop} {w : World} (hg : o.guard = none) (m : Operand) (hop : o.op = Op.range 40 m) (mb : Nat) (M : ByteArray → Option Value) (r : Nat) (hr : w.heap.size = r) (hm : a.eval m = .map (some mb)) (h : MapIs w mb M)
    (hK : ∀ w' cnt, MapRng w' mb r M (fun s => (M s).isSome) cnt → w.grownBy w' none → w'.heap.size = r + 1 → wpList Try.prog ops Q rest (a.put o.dst (.pointer (some ⟨r, 0, none⟩))) w') :
    wpList Try.prog ops Q (o :: rest) a w := by
  subst hr
  exact wpList_rng hg m hop mb M hm h hK

theorem oneCell_cellsM (l : List (Nat × Bool)) : ∀ u ∈ cellsM l, u.oneCell' = true := by
  intro u hu
  simp only [cellsM, List.mem_flatMap] at hu
  obtain ⟨x, _, hx⟩ := hu
  simp at hx
  rcases hx with rfl | rfl <;> rfl

theorem oneCell_strings (l : List ByteArray) : ∀ u ∈ l.map Value.string, u.oneCell' = true := by
  intro u hu
  obtain ⟨x, _, rfl⟩ := List.mem_map.1 hu
  rfl

theorem Copying.drew {W wr : World} {sb2 mb2 r nm bl left i} (h : Copying W wr sb2 mb2 r nm bl left i) : Copying W wr.drew sb2 mb2 r nm bl left i := by
  obtain ⟨hb, hr, bv2, M2, bs2, ρ2, h, hk⟩ := h
  exact ⟨hb.drew, hr, bv2, M2, bs2, ρ2, h.frame (Nat.le_refl _) (fun _ _ => rfl), hk⟩

/-- The copy as it begins. -/
theorem copying_start {w w0 : World} {sb mb bv M bs ρ nm bl} (h : ScpAt w sb mb bv M bs ρ nm bl)
    (hg : ((w.alloc (.map #[] 0)).alloc (.cells #[.map (some w.heap.size), .slice none 0 0] 43)).grownBy w0 none) (hsz : w0.heap.size = w.heap.size + 3) :
    Copying w w0 (w.heap.size + 1) w.heap.size (w.heap.size + 2) nm bl (fun s => (M s).isSome) 0 := by
  have hb : Below w.heap.size w w0 := ((((Below.refl _ w).alloc (Nat.le_refl _) _).alloc (by simp) _).grown hg (by simp; omega) (fun k e => by cases e))
  have e0 : w0.heap[w.heap.size]? = some (.map #[] 0) := by
    rw [hg.block _ (by simp; omega) (by simp), heap_alloc_old _ _ (by simp), heap_alloc_new]
  have e1 : w0.heap[w.heap.size + 1]? = some (.cells #[.map (some w.heap.size), .slice none 0 0] 43) := by
    rw [hg.block _ (by simp) (by simp)]
    have := heap_alloc_new (w.alloc (.map #[] 0)) (.cells #[.map (some w.heap.size), .slice none 0 0] 43)
    simpa using this
  refine ⟨hb, by omega, .slice none 0 0, fun _ => none, [], fun k => if k = w.heap.size then some .map else if k = w.heap.size + 1 then some .str else none, ⟨e1, ⟨#[], 0, e0, stamped_empty 0, by simp, by simp⟩, World.ownsRow_nil _ _ _ _, by simp, by simp, ?_, by simp, by simp, by simp, by simp [Value.ownBlock], by simp, by simp, ?_⟩, ?_⟩
  · intro s _
    cases hM : M s with
    | none => simp [h.rn s hM]
    | some v => simp [hM]
  · intro k hk
    by_cases a : k = w.heap.size
    · omega
    · by_cases b : k = w.heap.size + 1
      · omega
      · simp [a, b] at hk
  · intro k hk
    by_cases a : k = w.heap.size
    · omega
    · by_cases b : k = w.heap.size + 1
      · omega
      · simp [a, b] at hk

set_option maxHeartbeats 2000000 in
theorem copy_any {w : World} {sb ρ nm bl} (hsc : Sc w sb ρ nm bl) (hn : ∀ s, (nm s).length < 1000000) (hbl : bl.length < 1000000) (hll : ∀ l ∈ bl, l.length < 1000000) :
    Calls Try.prog 11 #[.pointer (some ⟨sb, 0, none⟩)] w fun e w' => ∃ sb2 mb2 r, e = .returned (.pointer (some ⟨sb2, 0, none⟩)) ∧ Copying w w' sb2 mb2 r nm bl (fun _ => false) bl.length := by
  obtain ⟨mb, bv, M, bs, h⟩ := hsc
  obtain ⟨ba, bc, rfl, _⟩ := ownsRow_slice h.rb
  have c0 := h.c0
  have c1 := h.c1
  have hL : bs.length = bl.length := h.len
  rw [hL] at c1
  have hmp := h.map
  have hmb : mb < w.heap.size := hmp.lt
  have hsb : sb < w.heap.size := h.lt sb (by rw [h.ρs]; simp)
  have hmm := @run_makeMap Try.prog
  have hM1 : ∀ o1 o2, MapIs ((w.alloc o1).alloc o2) mb M := fun o1 o2 => hmp.of_block (by
    rw [heap_alloc_old _ _ (by have := hmp.lt; simp; omega), heap_alloc_old _ _ hmp.lt])
  have hA0 : ((w.alloc (.map #[] 0)).alloc (.cells #[.map (some w.heap.size), .slice none 0 0] 43)).cell? ⟨sb, 0, none⟩ = some (.map (some mb)) := cell_later (((Below.refl w.heap.size w).alloc (Nat.le_refl _) _).alloc (by simp) _) c0
  have H := Lib.hid h; clear h
  have HL := Lib.hid hL; clear hL
  have HM1 := Lib.hid hM1; clear hM1 hmp
  have HN := Lib.hid hn; clear hn
  have HLL := Lib.hid hll; clear hll
  go_enter Try.func11, Try.ntmps11
  go_wp2_with (first
    | (go_at_call 21; refine (none_any _ _ _ (by assumption)).mono ?_; rintro e w' ⟨rfl, rfl⟩)
    | (at_range; refine wpList_rngAt rfl _ rfl mb M (w.heap.size + 2) (by simp) rfl (HM1.out _ _) ?_; intro w0 cnt0 hrg0 hg0 hs0)
    | go_in)
  go_frame
  clear hA0 hmm
  have HC1 := Lib.hid c1
  clear c0 c1
  go_loopw [4] (fun _ wr => ∃ left cnt, MapRng wr mb (w.heap.size + 2) M left cnt ∧ Copying w wr (w.heap.size + 1) w.heap.size (w.heap.size + 2) nm bl left 0) (fun _ wr => rngLeft wr mb (w.heap.size + 2))
  case atStart => exact ⟨_, _, hrg0, copying_start H.out hg0 hs0⟩
  case round =>
    obtain ⟨left, cnt, hrg, hcp⟩ := hrel
    have HR := Lib.hid hrg; clear hrg
    have HCP := Lib.hid hcp; clear hcp
    go_wp2_with (first
      | (at_next; refine wpList_nxt rfl _ rfl mb (w.heap.size + 2) M left cnt rfl HR.out ?_ ?_)
      | go_in)
    · intro _ hl0
      have hcp := HCP.out.names hl0
      have hd1 : wr.cell? ⟨sb, 1, none⟩ = some (.slice ba bl.length bc) := cell_later hcp.1 HC1.out
      have HCP0 := Lib.hid hcp
      clear hcp hl0
      go_wp2
      go_loopw [35] (fun i wr => ∃ k : Nat, k ≤ bl.length ∧ i = .int .i64 k ∧ Copying w wr (w.heap.size + 1) w.heap.size (w.heap.size + 2) nm bl (fun _ => false) k) (fun i _ => bl.length - (intOf i).toNat)
      case atStart => exact ⟨0, Nat.zero_le _, rfl, HCP0.out⟩
      case round =>
        clear HCP HCP0 HR hd1
        obtain ⟨k, hk, rfl, hcp⟩ := hrel
        by_cases hkl : k < bl.length
        · obtain ⟨xa, xc, xs, hbv⟩ := hcp.bv hk
          obtain ⟨l, hl⟩ : ∃ l, bl[k]? = some l := ⟨bl[k], List.getElem?_eq_getElem hkl⟩
          obtain ⟨u0, hu0⟩ : ∃ u0, bs[k]? = some u0 := ⟨bs[k]'(by rw [HL.out]; exact hkl), List.getElem?_eq_getElem _⟩
          obtain ⟨gb, hgb, hρb⟩ : ∃ gb, ba = some ⟨gb, 0, none⟩ ∧ ρ gb = some .bv := by
            obtain ⟨g, cap, e, _, _⟩ := H.out.rb.form (by rw [HL.out]; omega)
            simp only [Value.slice.injEq] at e
            exact ⟨g, e.1, H.out.ρb g (by rw [e.1]; rfl)⟩
          subst hgb
          have hd := cell_later hcp.1 (by have := H.out.rb.cells (g := gb) rfl k _ hu0; rw [cellAdd] at this; exact this)
          have hrow : wr.drew.ownsRow 0 9 1 u0 l.length (l.map .string) := ownsRow_of_block (H.out.rl k u0 l hu0 hl) fun g hg => hcp.1.block g (H.out.lt g (by rw [H.out.ρl k u0 g hu0 hg]; simp))
          have hlen := HLL.out l (List.mem_of_getElem? hl)
          have hcpd := hcp.drew
          have HROW := Lib.hid hrow
          have HL := Lib.hid hl
          have HCPD := Lib.hid hcpd
          have HBV := Lib.hid (show CopyBv wr.drew _ _ _ _ from hbv)
          have hx1 := hbv.1
          clear hrow hl hcpd hcp hbv hu0 hρb
          obtain ⟨i0, hi, hz0, hz1, hz2⟩ := info_parts info49
          have HI := Lib.hid hi; clear hi
          have HZ := Lib.hid (And.intro hz0 (And.intro hz1 hz2)); clear hz0 hz1 hz2
          go_wp2
          go_region_law (first
            | (go_simp
               go_at_call 23
               refine (clone23_any _ u0 l.length (l.map .string) HROW.out (oneCell_strings _) hlen).mono ?_
               rintro e wc ⟨u, rfl, hcl⟩
               obtain ⟨ua, uc, rfl, _⟩ := ownsRow_slice hcl.1
               have hx2 := cell_later hcl.2 hx1
               have hx3 : (wc.alloc (.cells #[.slice ua l.length uc] 49)).cell? ⟨w.heap.size + 1, 1, none⟩ = some (.slice xa k xc) := cell_later ((Below.refl wc.heap.size wc).alloc (Nat.le_refl _) _) hx2
               have hbw := ownsRow_of_block HBV.out.2.2 (w' := wc) (fun g hg => hcl.2.block g ((HBV.out.2.2.lt g hg).2))
               have HBW := Lib.hid hbw
               have HCL := Lib.hid hcl
               clear hcl hbw)
            | (refine step_append_lies _ rfl (.tmp 43) (.tmp 46) 41 rfl 0 49 i0 _ 1 24 Try.underlying41 HI.out HZ.out.1 HZ.out.2.1 HZ.out.2.2 rfl (by decide) _ _ _ rfl (HBW.out.alloc _) ⟨wc.heap.size, 0, none⟩ 1 1 [.slice ua l.length uc] rfl rfl ?_ (by simp [Value.oneCell']) (by decide) (by unfold maxLen; omega) (by omega) (Nat.zero_le _) (wc.heap.size + 1) (by simp) ?_
               · exact World.news_of_block (B := wc.heap.size) (cs := #[.slice ua l.length uc]) (t := 49) (fr := (0,0)) (heap_alloc_new wc _)
               intro g2 cap2 w3 hown2 hgrow2 hat2 hlt2
               obtain ⟨e1, e2, hcp3⟩ := HCPD.out.blk hkl l HL.out _ _ _ HBV.out HCL.out _ g2 cap2 hown2 hgrow2 hat2 hlt2
               have HCP3 := Lib.hid hcp3
               clear hown2 hgrow2 hat2 hlt2 hcp3)
            | fail)
          all_goals
            go_wp2
            go_roundw
            case rel => exact ⟨k + 1, by omega, by go_num, HCP3.out⟩
            case measure => simp [intOf]; omega
        · obtain rfl : k = bl.length := by omega
          have HCPE := Lib.hid hcp
          clear hcp
          go_wp2
          go_ret
          exact ⟨_, _, _, rfl, HCPE.out⟩
    · intro s v w1 cnt1 hs hls hMs hrg1 hlt1 hg1 hs1 hen
      have hcp1 := (HCP.out.other (by omega) hg1).drew
      have hd0 := hcp1.c0
      have hrow : w1.drew.ownsRow 0 48 2 v (nm s).length (cellsM (nm s)) := ownsRow_of_block (H.out.re s v hMs) fun g hg => hcp1.1.block g (H.out.lt g (by rw [H.out.ρe s v g hMs hg]; simp))
      have hlt2 := hrg1.lt
      have HCP1 := Lib.hid hcp1
      have HROW := Lib.hid hrow
      have HRG1 := Lib.hid hrg1
      have HMS := Lib.hid hMs
      have HLS := Lib.hid hls
      have HS1 := Lib.hid hs1
      have HG1 := Lib.hid hg1
      clear hcp1 hrow hrg1 hMs hls hs1 hg1
      go_wp2
      clear hen
      go_region_held3 (fun w' : World => w'.cell? ⟨w.heap.size + 1, 0, none⟩ = some (.map (some w.heap.size))) (first | assumption | go_keep) (first
        | (go_at_call 22
           refine (clone22_any _ v (nm s).length (cellsM (nm s)) HROW.out (oneCell_cellsM _) (HN.out s)).mono ?_
           rintro e wc ⟨v', rfl, hcl⟩
           obtain ⟨hd2, wu, hrun, hcp2, hd3, hblk⟩ := HCP1.out.ent s hs v' hcl
           have HCP2 := Lib.hid hcp2
           have HBLK := Lib.hid hblk
           clear hcl hcp2 hblk)
        | fail)
      go_wp2
      have hrg2 : MapRng wu mb (w.heap.size + 2) M (fun x => left x && !decide (x = s)) cnt1 := HRG1.out.of_blocks (HBLK.out mb (show mb < w1.heap.size by omega) (by omega)) (HBLK.out _ (show _ < w1.heap.size by omega) (by omega))
      go_roundw
      case rel => exact ⟨_, _, hrg2, HCP2.out⟩
      case measure => rw [hrg2.left_eq, HR.out.left_eq]; exact hlt1
end Go.Proofs.Ytanblanoaahcfaa
