/-
  What Close does: the names of the innermost block lose their last marks, the block goes.
-/
import Derived.Test.YtanblanoaahcfaaIter
import Derived.Deep.RegionHeld3
namespace Go.Proofs.Ytanblanoaahcfaa
open Go.RowKit Go.Shelf

attribute [local go_sem] Oper.semAt_some

def hasN (L : List ByteArray) (s : ByteArray) : Bool := L.any fun x => decide (x = s)
theorem hasN_iff {L : List ByteArray} {s : ByteArray} : hasN L s = true ↔ s ∈ L := by
  simp [hasN]
/-- What Close makes of the names. -/
def closeN (L : List ByteArray) (nm : ByteArray → List (Nat × Bool)) : ByteArray → List (Nat × Bool) := fun s => if hasN L s = true then (nm s).dropLast else nm s

def popV : Value → Value
  | .slice a n c => .slice a (n - 1) c
  | v => v
/-- The map when the names of pre have lost their last marks. -/
def popM (M : ByteArray → Option Value) (pre : List ByteArray) : ByteArray → Option Value := fun s => if hasN pre s = true then (M s).map popV else M s

theorem popV_own (v : Value) : (popV v).ownBlock = v.ownBlock := by
  cases v <;> try rfl
  rename_i a n c
  cases a <;> rfl

theorem popM_snoc (M : ByteArray → Option Value) (pre : List ByteArray) (x : ByteArray) (v : Value) (hx : x ∉ pre) (hM : M x = some v) : upd (popM M pre) x (popV v) = popM M (pre ++ [x]) := by
  funext s
  unfold upd popM
  by_cases e : s = x
  · subst e
    have h1 : hasN (pre ++ [s]) s = true := hasN_iff.2 (by simp)
    rw [if_pos rfl, if_pos h1, hM]; rfl
  · rw [if_neg e]
    by_cases h1 : hasN pre s = true
    · rw [if_pos h1, if_pos (hasN_iff.2 (List.mem_append_left _ (hasN_iff.1 h1)))]
    · rw [if_neg h1, if_neg (fun h2 => by
        rcases List.mem_append.1 (hasN_iff.1 h2) with h3 | h3
        · exact h1 (hasN_iff.2 h3)
        · exact e (by simpa using h3))]

theorem ownsRow_shrink {w : World} {base e size : Nat} {v : Value} {n : Nat} {xs : List Value} (h : w.ownsRow base e size v (n + 1) xs) : w.ownsRow base e size (popV v) n (xs.take (n * size)) := by
  rcases h.2 with ⟨_, h0⟩ | ⟨g, cap, cur, rfl, hb, hg, hn, hc, hs, ht⟩
  · omega
  · refine ⟨?_, .inr ⟨g, cap, cur, rfl, hb, hg, by omega, hc, hs, ?_⟩⟩
    · rw [List.length_take, h.1, Nat.min_eq_left (Nat.mul_le_mul_right _ (by omega))]
    · rw [← ht, List.take_take, Nat.min_eq_left (Nat.mul_le_mul_right _ (by omega))]

theorem cellsM_dropLast (l : List (Nat × Bool)) (n : Nat) (h : l.length = n + 1) : (cellsM l).take (n * 2) = cellsM l.dropLast := by
  have hne : l ≠ [] := by intro e; rw [e] at h; simp at h
  obtain ⟨d, x, rfl⟩ : ∃ d x, l = d ++ [x] := ⟨l.dropLast, l.getLast hne, (List.dropLast_concat_getLast hne).symm⟩
  have hd : d.length = n := by simpa using h
  rw [cellsM_append, List.dropLast_concat, ← hd, ← cellsM_length, List.take_left]

theorem MapIs.keySize {w : World} {mb : Nat} {M} (h : MapIs w mb M) {x : ByteArray} {v : Value} (hM : M x = some v) : x.size ≤ maxLen := by
  obtain ⟨es, clock, _, _, hin, hon⟩ := h
  obtain ⟨e, he, hk, _⟩ := hon x v hM
  obtain ⟨s, hs, hk2, _⟩ := hin e he
  rw [hk] at hk2
  have : x = s := by simpa using hk2
  rw [this]; exact hs

/-- The names of the innermost block have lost their last marks. -/
theorem ScpAt.popped {w1 W : World} {sb mb bv M bs ρ nm bl} (h : ScpAt w1 sb mb bv M bs ρ nm bl) (L : List ByteArray) (hg : w1.grownBy W (some mb)) (hM : MapIs W mb (popM M L)) (hne : ∀ x ∈ L, nm x ≠ []) :
    ScpAt W sb mb bv (popM M L) bs ρ (closeN L nm) bl := by
  have kk : ∀ k r, ρ k = some r → r ≠ .map → W.heap[k]? = w1.heap[k]? := fun k r hr h1 => hg.block k (h.lt k (by rw [hr]; simp)) (by
    intro e
    have : k = mb := by simpa using e
    subst this
    rw [h.ρm] at hr
    exact h1 (by simpa using hr.symm))
  refine ⟨(kk sb .str h.ρs (by simp)).trans h.str, hM, ownsRow_of_block h.rb (fun g hg' => kk g _ (h.ρb g hg') (by simp)), h.len, ?_, ?_, ?_, h.ρs, h.ρm, h.ρb, ?_, h.ρl, fun k hk => Nat.lt_of_lt_of_le (h.lt k hk) hg.size⟩
  · intro s v hv
    unfold popM at hv
    unfold closeN
    by_cases e : hasN L s = true
    · rw [if_pos e] at hv
      rw [if_pos e]
      obtain ⟨v0, hv0, rfl⟩ := Option.map_eq_some_iff.1 hv
      have hr := h.re s v0 hv0
      obtain ⟨n, hn⟩ : ∃ n, (nm s).length = n + 1 := by
        have := hne s (hasN_iff.1 e)
        cases hl : nm s with
        | nil => exact (this hl).elim
        | cons a b => exact ⟨b.length, rfl⟩
      rw [hn] at hr
      have := ownsRow_shrink hr
      rw [cellsM_dropLast _ _ hn] at this
      rw [List.length_dropLast, hn]
      exact ownsRow_of_block this fun g hg' => kk g _ (h.ρe s v0 g hv0 (by rw [← popV_own]; exact hg')) (by simp)
    · rw [if_neg e] at hv
      rw [if_neg e]
      exact ownsRow_of_block (h.re s v hv) fun g hg' => kk g _ (h.ρe s v g hv hg') (by simp)
  · intro s hv
    unfold popM at hv
    unfold closeN
    by_cases e : hasN L s = true
    · rw [if_pos e] at hv ⊢
      rw [h.rn s (by simpa using hv)]; rfl
    · rw [if_neg e] at hv ⊢
      exact h.rn s hv
  · intro i v l hv hl
    exact ownsRow_of_block (h.rl i v l hv hl) fun g hg' => kk g _ (h.ρl i v g hv hg') (by simp)
  · intro s v g hv hgb
    unfold popM at hv
    by_cases e : hasN L s = true
    · rw [if_pos e] at hv
      obtain ⟨v0, hv0, rfl⟩ := Option.map_eq_some_iff.1 hv
      exact h.ρe s v0 g hv0 (by rw [← popV_own]; exact hgb)
    · rw [if_neg e] at hv
      exact h.ρe s v g hv hgb

/-- The innermost block has gone. -/
theorem ScpAt.shut {W : World} {sb mb gb n bc M bs ρ nm bl} (h : ScpAt W sb mb (.slice (some ⟨gb, 0, none⟩) (n + 1) bc) M bs ρ nm bl) (hl : bs.length = n + 1) (V : World)
    (hV : ∀ k, k < W.heap.size → k ≠ sb → V.heap[k]? = W.heap[k]?) (hs : V.heap[sb]? = some (.cells #[.map (some mb), .slice (some ⟨gb, 0, none⟩) n bc] 43 (0, 0))) (hsz : W.heap.size ≤ V.heap.size) :
    ScpAt V sb mb (.slice (some ⟨gb, 0, none⟩) n bc) M bs.dropLast ρ nm bl.dropLast := by
  have hgs : gb ≠ sb := by
    rintro rfl
    have := h.ρs
    rw [h.ρb gb rfl] at this
    simp at this
  have hrho : ρ gb = some .bv := h.ρb gb rfl
  have hgl : gb < W.heap.size := h.lt gb (by rw [hrho]; simp)
  have hrb := h.rb
  rw [hl] at hrb
  have hsh := ownsRow_shrink hrb
  have e1 : bs.dropLast = bs.take (n * 1) := by rw [List.dropLast_eq_take, hl]; simp
  have e2 : bs.dropLast.length = n := by rw [List.length_dropLast, hl]; rfl
  have key := h.setBv (w2 := V) gb n bc bs.dropLast bl.dropLast hs (fun k hk _ h2 => hV k hk h2)
    (by rw [e2, e1]; exact ownsRow_of_block hsh fun g hg => by
          have : gb = g := by simpa [Value.ownBlock, popV] using hg
          subst this
          exact hV gb hgl hgs)
    (by rw [List.length_dropLast, List.length_dropLast, h.len])
    (fun i v l hv hl' => by
      right
      rw [List.getElem?_dropLast] at hv hl'
      split at hv
      · split at hl'
        · exact ⟨hv, hl'⟩
        · cases hl'
      · cases hv)
    (.inl rfl) (by omega) hsz
  have : (fun k => if k = gb then some Role.bv else ρ k) = ρ := by
    funext k
    split
    · rename_i e; rw [e, hrho]
    · rfl
  rw [this] at key
  exact key

set_option maxHeartbeats 2000000 in
theorem close_main {w : World} {sb mb bv M bs ρ nm bl} (h : ScpAt w sb mb bv M bs ρ nm bl) (m : Nat) (hl : bl.length = m + 2) (hm : m < 900000) (L : List ByteArray) (hL : bl[m + 1]? = some L) (hLn : L.length < 1000000) (hnd : L.Nodup) (hne : ∀ x ∈ L, nm x ≠ []) :
    Calls Try.prog 15 #[.pointer (some ⟨sb, 0, none⟩)] w fun e w' => e = .returned (.int .i64 0) ∧ Goes w sb ρ (closeN L nm) bl.dropLast w' := by
  have hbs : bs.length = m + 2 := h.len.trans hl
  obtain ⟨u, hu⟩ : ∃ u, bs[m + 1]? = some u := ⟨bs[m + 1], List.getElem?_eq_getElem (by omega)⟩
  have hrl := h.rl (m + 1) u L hu hL
  obtain ⟨ua, uc, rfl, _⟩ := ownsRow_slice hrl
  obtain ⟨gb, bc, rfl⟩ : ∃ gb bc, bv = .slice (some ⟨gb, 0, none⟩) bs.length bc := by
    obtain ⟨g, cap, e, _, _⟩ := h.rb.form (by omega)
    exact ⟨g, cap, e⟩
  -- the world behind the box
  obtain ⟨w0, hw0⟩ : ∃ w0, w.alloc (.cells #[.pointer (some ⟨sb, 0, none⟩)] 26) = w0 := ⟨_, rfl⟩
  have hb0 : Below w.heap.size w w0 := by rw [← hw0]; exact (Below.refl _ w).alloc (Nat.le_refl _) _
  have hbox : w0.cell? ⟨w.heap.size, 0, none⟩ = some (.pointer (some ⟨sb, 0, none⟩)) := by rw [← hw0]; exact box_cell _ _ _ _ _ rfl
  have hsz0 : w0.heap.size = w.heap.size + 1 := by rw [← hw0]; simp
  have h0 : ScpAt w0 sb mb (.slice (some ⟨gb, 0, none⟩) bs.length bc) M bs ρ nm bl := h.frame hb0.size (fun k hk => hb0.block k (h.lt k hk))
  have c0 := h0.c0
  have c1 := h0.c1
  rw [hbs] at c1
  have hlast := last_sc h0 (m + 1) hl (by omega) ua L.length uc hu
  have q3 : IntKind.i64.wrap ((m : Int) + 2 - 1) = (m : Int) + 1 := by rw [show (m : Int) + 2 - 1 = (m : Int) + 1 from by omega]; exact IntWalk.i64_in _ (by omega)
  have H := Lib.hid h; clear h
  have H0 := Lib.hid h0; clear h0
  have HW0 := Lib.hid hw0; clear hw0
  have HLAST := Lib.hid hlast; clear hlast
  have HRL := Lib.hid hrl; clear hrl
  have HBS := Lib.hid hbs; clear hbs
  have HL := Lib.hid hL; clear hL
  have HLL := Lib.hid hl; clear hl
  have HU := Lib.hid hu; clear hu
  have HS0 := Lib.hid hsz0; clear hsz0
  have hro : Fence.wide.round = none := rfl
  refine (callsIn_wide (n := 5)).1 ?_
  refine callsIn_of_wp_marks Try.func15 rfl trivial ?_ rfl
  simp only [Try.ntmps15, List.size_toArray, List.length_cons, List.length_nil, Nat.reduceAdd, Nat.reduceSub, Array.replicate_succ, Array.replicate_zero, List.push_toArray, List.append_toArray, List.nil_append, List.cons_append]
  gi_wp2_with fail
  refine ⟨trivial, ?_⟩
  rw [HW0.out]
  refine (callsIn_wide.2 (none_any _ _ _ c0)).mono ?_
  rintro e w' ⟨rfl, rfl⟩
  gi_wp2_with fail
  refine ⟨trivial, ?_⟩
  refine (callsIn_wide.2 HLAST.out).mono ?_
  rintro e w1 ⟨B, rfl, hB0, hB1, hBc, hb1⟩
  gi_wp2_with fail
  -- the row of the names
  have hbw : Below w.heap.size w w1 := hb0.trans (hb1.mono hb0.size)
  have h1 : ScpAt w1 sb mb (.slice (some ⟨gb, 0, none⟩) bs.length bc) M bs ρ nm bl := H.out.frame hbw.size (fun k hk => hbw.block k (H.out.lt k hk))
  obtain ⟨gl, hgl, hgm, hglt⟩ : ∃ gl, ((ua = none ∧ L.length = 0 ∧ uc = 0) ∨ ua = some ⟨gl, 0, none⟩) ∧ gl ≠ mb ∧ gl < w1.heap.size := by
    rcases HRL.out.2 with ⟨e, e0⟩ | ⟨g, cap, cur, e, _⟩
    · simp only [Value.slice.injEq] at e
      exact ⟨sb, .inl ⟨e.1, e0, e.2.2⟩, by rintro rfl; have := h1.ρm; rw [h1.ρs] at this; simp at this, h1.lt sb (by rw [h1.ρs]; simp)⟩
    · simp only [Value.slice.injEq] at e
      have hr := h1.ρl (m + 1) _ g HU.out (by rw [e.1]; rfl)
      exact ⟨g, .inr e.1, by rintro rfl; have := h1.ρm; rw [hr] at this; simp at this, h1.lt g (by rw [hr]; simp)⟩
  have hcs : ∀ j x, L[j]? = some x → w1.cell? ⟨gl, j, none⟩ = some (.string x) := by
    intro j x hx
    rcases hgl with ⟨_, e0, _⟩ | e
    · rw [List.eq_nil_of_length_eq_zero e0] at hx; simp at hx
    · have := (h1.rl (m + 1) _ L HU.out HL.out).cells (g := gl) (by rw [e]; rfl) j (.string x) (by simp [hx])
      rwa [cellAdd] at this
  have hmw : mb < w1.heap.size := h1.map.lt
  have hbox1 := cell_later hb1 hbox
  refine forEach (zs := L) hro (by omega) (gf := 26) (lb := #[.pointer (some ⟨B, 0, none⟩)]) rfl trivial (enters_of Try.func26 (by kernel_rfl) rfl)
    (values_hands Fence.wide (5 - 1) trivial hro (by omega) B gl ua L.length uc L rfl hLn hgl w1 hBc hcs)
    (fun a b => b.trans a) (fun W l o' hl' => World.putObj_heap_other (by omega)) (fun _ => rfl)
    (fun pre W => w1.grownBy W (some mb) ∧ MapIs W mb (popM M pre)) ?hI ?h0
    (fun x => { tmps := #[.pointer (some ⟨sb, 0, none⟩), .pointer (some ⟨w.heap.size, 0, none⟩), .int .i64 0, .int .i64 (m + 1), .string x, undef, .pointer (some ⟨sb, 0, none⟩), .bool false, .pointer (some ⟨sb, 0, none⟩),
      .pointer (some ⟨sb, 0, none⟩), .pointer (some ⟨sb, 1, none⟩), .slice (some ⟨gb, 0, none⟩) (m + 2) bc, .int .i64 (m + 2), .int .i64 (m + 1), .int .i64 (m + 1), .bool false, .pointer (some ⟨sb, 0, none⟩),
      .func (.func 26) #[] #[.pointer (some ⟨B, 0, none⟩)], .string x, undef, undef, undef, undef, undef, undef, undef, undef, undef, undef, undef, undef, undef, undef, undef, undef, undef, undef, undef, undef, undef, undef, undef, undef, undef], defers := [] })
    ?assign ?body ?done
  case hI =>
    rintro pre A A' row ⟨g1, g2⟩ hg hr
    refine ⟨g1.andThen hg (fun j e => .inl (hr j e).1), g2.of_block (hg.block mb g2.lt (fun e => by have := (hr mb e.symm).1; omega))⟩
  case h0 =>
    exact ⟨⟨rfl, rfl, rfl, Nat.le_refl _, fun _ _ _ => rfl⟩, h1.map⟩
  case assign =>
    intro l x W K hK
    gi_wp2
    exact hK
  case body =>
    rintro l pre x W ⟨g1, g2⟩ hp
    have hxL : x ∈ L := hp.subset (by simp)
    have hxp : x ∉ pre := by
      obtain ⟨t, ht⟩ := hp
      rw [← ht, List.append_assoc, List.nodup_append] at hnd
      exact fun hin => hnd.2.2 x hin x (by simp) rfl
    obtain ⟨g, j, c, hln, hMx, hρg, hjc⟩ : ∃ g j c, (nm x).length = j + 1 ∧ M x = some (.slice (some ⟨g, 0, none⟩) (j + 1) c) ∧ ρ g = some (.ent x) ∧ j + 1 ≤ c := by
      rcases h1.at x with ⟨e, _⟩ | ⟨g, j, c, e1, e2, e3, _⟩
      · exact (hne x hxL e).elim
      · refine ⟨g, j, c, e1, e2, e3, ?_⟩
        rcases (h1.re x _ e2).2 with ⟨e, _⟩ | ⟨g', cap, cur, e, _, _, hcap, _⟩
        · cases e
        · simp only [Value.slice.injEq] at e
          omega
    have hxs : x.size ≤ maxLen := h1.map.keySize hMx
    have hj : j < 9223372036854775807 := by
      rcases (h1.re x _ hMx).2 with ⟨e, _⟩ | ⟨g', cap, cur, e, _, _, hcap, hcm, _⟩
      · cases e
      · unfold maxLen at hcm
        omega
    have hpx : popM M pre x = some (.slice (some ⟨g, 0, none⟩) (j + 1) c) := by
      unfold popM
      rw [if_neg (fun e => hxp (hasN_iff.1 e))]
      exact hMx
    have hlk := g2.look x hxs
    rw [hpx] at hlk
    have gd : MapIs W.drew mb (popM M pre) := g2.of_block rfl
    obtain ⟨W2, hup, hM2, hg2, hsz2⟩ := gd.update x hxs (popV (.slice (some ⟨g, 0, none⟩) (j + 1) c))
    rw [popM_snoc M pre x _ hxp hMx] at hM2
    have d0 : W.cell? ⟨w.heap.size, 0, none⟩ = some (.pointer (some ⟨sb, 0, none⟩)) := by
      rw [World.cell?_of_block (w := w1) (g1.block _ (by show w.heap.size < w1.heap.size; have := hb1.size; have := HS0.out; omega) (by have := H.out.map.lt; simp; omega))]
      exact hbox1
    have d1 : W.cell? ⟨sb, 0, none⟩ = some (.map (some mb)) := by
      rw [World.cell?_of_block (w := w1) (g1.block _ (h1.lt sb (by rw [h1.ρs]; simp)) (by have := h1.ρs; intro e; simp at e; subst e; rw [h1.ρm] at this; simp at this))]
      exact h1.c0
    simp only [popV, Nat.add_sub_cancel] at hup
    simp only [Option.getD_some] at hlk
    have hmx : Try.prog.follows .mixedOrders = true := by kernel_rfl
    have hd2 : 1 ≤ 5 - 1 - 1 := by omega
    have q1 : (0 : Int) ≤ (j : Int) := by omega
    have q2 : (j : Int) ≤ (c : Int) := by omega
    have q4 : IntKind.i64.wrap (j : Int) = (j : Int) := IntWalk.i64_in _ (by omega)
    have q5 : IntKind.i64.wrap ((j : Int) + 1 - 1) = (j : Int) := by rw [show (j : Int) + 1 - 1 = (j : Int) from by omega]; exact q4
    have HM2 := Lib.hid hM2
    have HG1 := Lib.hid g1
    have HG2 := Lib.hid hg2
    have HMX := Lib.hid hMx
    have HPX := Lib.hid hpx
    clear hM2 g1 g2 hg2 hMx hpx hln hρg gd hnd hne hcs hgl h1 hbw hb1 hb0 hbox hbox1 hBc hB0 hB1 c0 c1 hsz2
    gi_wp2
    refine wpIn_drawInRound l (by kernel_rfl) (by kernel_rfl) ?_
    refine wpAnyIn_take (i := 4) (v := .string x) rfl rfl (by kernel_rfl) (by kernel_rfl) (by kernel_rfl) (fun _ _ _ h => h) ⟨Or.inl ⟨by rfl, by intro w; go_simp⟩, fun _ => rfl⟩ ?_
    refine wpAnyIn_take (i := 5) (v := .slice (some ⟨g, 0, none⟩) (j + 1) c) rfl rfl (by kernel_rfl) (by kernel_rfl) (by kernel_rfl) (fun _ _ _ h => h) ⟨Or.inl ⟨by rfl, by intro w; go_simp⟩, fun _ => rfl⟩ ?_
    refine wpAnyIn_take (i := 6) (v := .slice (some ⟨g, 0, none⟩) (j + 1) c) rfl rfl (by kernel_rfl) (by kernel_rfl) (by kernel_rfl) (fun _ _ _ h => h) ⟨Or.inl ⟨by rfl, by intro w; go_simp⟩, fun _ => rfl⟩ ?_
    refine wpAnyIn_take (i := 7) (v := .int .i64 ((j : Int) + 1)) rfl rfl (by kernel_rfl) (by kernel_rfl) (by kernel_rfl) (fun _ _ _ h => h) ⟨Or.inl ⟨by rfl, by intro w; go_simp⟩, fun _ => rfl⟩ ?_
    refine wpAnyIn_take (i := 8) (v := .int .i64 j) rfl rfl (by kernel_rfl) (by kernel_rfl) (by kernel_rfl) (fun _ _ _ h => h) ⟨Or.inl ⟨by rfl, by intro w; go_simp⟩, fun _ => rfl⟩ ?_
    refine wpAnyIn_take (i := 9) (v := .slice (some ⟨g, 0, none⟩) j c) rfl rfl (by kernel_rfl) (by kernel_rfl) (by kernel_rfl) (fun _ _ _ h => h) ⟨Or.inl ⟨by rfl, by intro w; go_simp⟩, fun _ => rfl⟩ ?_
    refine wpAnyIn_ready (rs := [0]) (by kernel_rfl) (by simp) ?_
    refine AllReadyIn.cons rfl (fun K hK => ?_) AllReadyIn.nil
    go_simp
    refine hK _ _ ?_
    clear hK K
    refine wpAnyIn_take (i := 1) (v := .pointer (some ⟨sb, 0, none⟩)) rfl rfl (by kernel_rfl) (by kernel_rfl) (by kernel_rfl) (fun _ _ _ h => h) ⟨Or.inl ⟨by rfl, by intro w; go_simp⟩, fun _ => rfl⟩ ?_
    refine wpAnyIn_take (i := 2) (v := .pointer (some ⟨sb, 0, none⟩)) rfl rfl (by kernel_rfl) (by kernel_rfl) (by kernel_rfl) (fun _ _ _ h => h) ⟨Or.inl ⟨by rfl, by intro w; go_simp⟩, fun _ => rfl⟩ ?_
    refine wpAnyIn_ready (rs := [3]) (by kernel_rfl) (by simp) ?_
    refine AllReadyIn.cons rfl (fun K hK => ?_) AllReadyIn.nil
    go_simp
    refine hK _ _ ?_
    clear hK K
    refine wpAnyIn_ready (rs := [10]) (by kernel_rfl) (by simp) ?_
    refine AllReadyIn.cons rfl (fun K hK => ?_) AllReadyIn.nil
    go_simp
    refine hK _ _ ?_
    clear hK K
    refine wpAnyIn_done (by kernel_rfl) ?_ _
    gi_wp2
    have hgw : W.grownBy W2 (some mb) := ⟨HG2.out.os, HG2.out.tape, HG2.out.output, HG2.out.size, HG2.out.block⟩
    have hgw' := HG1.out.andThen hgw (fun k e => by cases e; exact .inr rfl)
    refine ⟨KeepsFrom.of_grownBy hgw (fun k e => by cases e; exact hmw), hgw.block gl (Nat.lt_of_lt_of_le hglt HG1.out.size) (by simp [hgm]), hgw', HM2.out⟩
  case done =>
    rintro D W hD ⟨g1, g2⟩ hK
    have hS := h1.popped L g1 g2 hne
    have hmb : m + 2 ≤ bc := by
      rcases hS.rb.2 with ⟨e, _⟩ | ⟨g', cap, cur, e, _, _, hcap, _⟩
      · cases e
      · simp only [Value.slice.injEq] at e
        rw [HBS.out] at hcap
        omega
    have d0 : W.cell? ⟨w.heap.size, 0, none⟩ = some (.pointer (some ⟨sb, 0, none⟩)) := by
      rw [World.cell?_of_block (w := w1) (g1.block _ (by show w.heap.size < w1.heap.size; have := hb1.size; have := HS0.out; omega) (by have := H.out.map.lt; simp; omega))]
      exact hbox1
    have d1 := hS.c1
    have f1 := hS.f1
    rw [HBS.out] at d1
    have HS := Lib.hid hS
    have HG1 := Lib.hid g1
    have hmx : Try.prog.follows .mixedOrders = true := by kernel_rfl
    have q1 : (0 : Int) ≤ (m : Int) + 1 := by omega
    have q2 : (m : Int) + 1 ≤ (bc : Int) := by omega
    have q4 : ((m : Int) + 1).toNat = m + 1 := by omega
    have hDW : D < W.heap.size := (Array.getElem?_eq_some_iff.1 hK).1
    have hsbl : sb < w.heap.size := H.out.lt sb (by rw [H.out.ρs]; simp)
    have hww : w.heap.size < w1.heap.size := by have := hb1.size; have := HS0.out; omega
    have hK2 : (W.setCell ⟨sb, 1, none⟩ (.slice (some ⟨gb, 0, none⟩) (m + 1) bc)).drew.heap[D]? = some (.deferred (some [])) := by
      rw [drew_heap, Below.heap_setCell _ _ _ _ (by show D ≠ sb; omega)]
      exact hK
    have hfin : Goes w sb ρ (closeN L nm) bl.dropLast ((W.setCell ⟨sb, 1, none⟩ (.slice (some ⟨gb, 0, none⟩) (m + 1) bc)).drew.putObj D (.deferred none)) := by
      rw [HBS.out] at hS
      have hsh := hS.shut HBS.out ((W.setCell ⟨sb, 1, none⟩ (.slice (some ⟨gb, 0, none⟩) (m + 1) bc)).drew) (fun k hk hne' => by
          rw [drew_heap]; exact Below.heap_setCell _ _ _ _ hne')
        (by rw [drew_heap]; simp [World.setCell, Array.getElem?_modify, hS.str]) (by rw [drew_heap]; simp [World.setCell])
      have hfr := hsh.frame (w' := (W.setCell ⟨sb, 1, none⟩ (.slice (some ⟨gb, 0, none⟩) (m + 1) bc)).drew.putObj D (.deferred none)) (by simp) (fun k hk => World.putObj_heap_other (by rintro rfl; have := H.out.lt k hk; omega))
      refine ⟨ρ, ⟨_, _, _, _, hfr⟩, ⟨⟨g1.os.trans hbw.os, g1.tape.trans hbw.tape, g1.output.trans hbw.output, ?_, ?_⟩, fun k hk => .inl hk⟩⟩
      · have := hbw.size
        have := g1.size
        have e : ((W.setCell ⟨sb, 1, none⟩ (.slice (some ⟨gb, 0, none⟩) (m + 1) bc)).drew.putObj D (.deferred none)).heap.size = W.heap.size := by simp [World.setCell]
        omega
      · intro k hk hr
        have k1 : k ≠ mb := by rintro rfl; rw [H.out.ρm] at hr; cases hr
        have k2 : k ≠ sb := by rintro rfl; rw [H.out.ρs] at hr; cases hr
        rw [World.putObj_heap_other (by omega), drew_heap, Below.heap_setCell _ _ _ _ k2, g1.block k (by omega) (by simp [k1]), hbw.block k hk]
    have HFIN := Lib.hid hfin
    have HK2 := Lib.hid hK2
    clear hDW hsbl hww hK2 hfin
    clear hS g1 g2 hK hnd hne hcs hgl hgm h1 hbw hb1 hb0 hbox hbox1 hBc hB0 hB1 c0 c1 hglt q3
    gi_wp2
    refine wpIn_mono (?_ : Code.wpIn _ _ _ _ (NoPanic _) _ _) NoPanic.imp
    gi_region_with_o (fail)
    all_goals
      refine NoPanic.normal ?_
      gi_wp2
      refine ⟨by simp, .inl ⟨_, _, rfl, run_takeDeferred HK2.out, ?_⟩⟩
      exact ⟨_, results_tmp rfl _ _ _, rfl, HFIN.out⟩
end Go.Proofs.Ytanblanoaahcfaa
