/-
  What the table's Replace does: the text, escaped.
-/
import Derived.Test.YtkenoljnacepaaaRef
import Derived.Test.YtkenoljnacepaaaTab
import Derived.Lib.Strings
import Derived.Lib.Walk
import Derived.Lib.Bytealg
import Derived.Lib.SlBuf
import Derived.BigQuiet
import Derived.Deep.QuietTactic
import Derived.Deep.RegionLaw
namespace Go.Proofs.Ytkenoljnacepaaa
open Go.RowKit

/-! ### plain -/
def cnt (l : List UInt8) : Nat := l.count 10 + l.count 92

theorem cnt_snoc (l : List UInt8) (c : UInt8) : cnt (l ++ [c]) = cnt l + (if c = 10 then 1 else if c = 92 then 1 else 0) := by
  unfold cnt
  rw [List.count_append, List.count_append]
  by_cases h1 : c = 10
  · subst h1; simp; omega
  · by_cases h2 : c = 92
    · subst h2; simp; omega
    · simp [h1, h2]

theorem escL_cnt (l : List UInt8) : (escL l).length = l.length + cnt l := by
  induction l with
  | nil => rfl
  | cons c l ih =>
    have e : escL (c :: l) = esc1 c ++ escL l := rfl
    rw [e, List.length_append, ih]
    unfold esc1 cnt
    by_cases h1 : c = 10
    · subst h1; simp; omega
    · by_cases h2 : c = 92
      · subst h2; simp; omega
      · simp [h1, h2]; omega

theorem cnt_zero (l : List UInt8) (h : cnt l = 0) : escL l = l := by
  have h1 : l.count 10 = 0 := by unfold cnt at h; omega
  have h2 : l.count 92 = 0 := by unfold cnt at h; omega
  rw [List.count_eq_zero] at h1 h2
  induction l with
  | nil => rfl
  | cons c l ih =>
    have e : escL (c :: l) = esc1 c ++ escL l := rfl
    have n1 : ¬ c = 10 := fun e => h1 (by simp [e])
    have n2 : ¬ c = 92 := fun e => h2 (by simp [e])
    have hc : cnt l = 0 := by
      unfold cnt
      rw [List.count_eq_zero.2 (fun e => h1 (by simp [e])), List.count_eq_zero.2 (fun e => h2 (by simp [e]))]
    rw [e, ih hc (fun e => h1 (by simp [e])) (fun e => h2 (by simp [e]))]
    simp [esc1, n1, n2]

theorem bytesOf_toList (s : ByteArray) : bytesOf s.data.toList = s := by
  unfold bytesOf
  rfl

set_option maxHeartbeats 1000000 in
set_option maxRecDepth 100000 in
theorem count_one (s : ByteArray) (c : UInt8) (w : World) :
    Calls Try.prog 76 #[.string s, .string ⟨#[c]⟩] w fun e w' => e = .returned (.int .i64 (s.data.toList.count c)) ∧ w' = w := by
  go_enter Try.func76, Try.ntmps76
  go_wp2
  rw [run_callFunc_extern Try.func78 (by kernel_rfl) (by kernel_rfl) (by kernel_rfl) (e := Extern.BytealgCount.count) (by kernel_rfl), Lib.run_countString]
  simp only [Result.andThen]
  rw [Oper.upon_value]
  go_wp2
  go_ret
  exact ⟨rfl, rfl⟩

theorem nnil58 (w : World) (a : Option Addr) (n c : Nat) : (binOp .neq 58 (.slice a n c) (.slice none 0 0)).run Try.prog w = .ok (.bool (!a.isNone)) w := by
  cases a <;> first | exact run_neq_slice_nil_any w _ _ _ n c 0 0 Try.underlying58

/-- One byte more in the buffer. -/
theorem Buf_push {w0 wr : World} {h N : Nat} {acc : List UInt8} (hb : Lib.Buf w0 wr h N acc) (x : UInt8) (hN : acc.length < N) : Lib.Buf w0 (wr.setCell ⟨h, acc.length, none⟩ (.int .u8 (x.toNat : Int))) h N (acc ++ [x]) := by
  obtain ⟨u, hu⟩ := Option.isSome_iff_exists.1 (hb.there _ hN)
  have same := World.cell?_setCell_same wr ⟨h, acc.length, none⟩ (.int .u8 (x.toNat : Int)) hu
  have other : ∀ j, j ≠ acc.length → (wr.setCell ⟨h, acc.length, none⟩ (.int .u8 (x.toNat : Int))).cell? ⟨h, j, none⟩ = wr.cell? ⟨h, j, none⟩ := fun j hj => World.cell?_setCell_other _ _ _ _ (fun e => hj (by simpa using (congrArg Addr.off e).symm))
  refine ⟨hb.below.setCell (p := ⟨h, acc.length, none⟩) (Nat.le_refl _) _, fun j hj => ?_, fun j hj => by rw [World.frozen?_setCell]; exact hb.free j hj, fun j y hy => ?_, by simp; omega⟩
  · by_cases e : j = acc.length
    · subst e; rw [same]; rfl
    · rw [other j e]; exact hb.there j hj
  · by_cases e : j < acc.length
    · rw [List.getElem?_append_left e] at hy
      rw [other j (by omega)]
      exact hb.holds j y hy
    · rw [List.getElem?_append_right (by omega)] at hy
      have : j = acc.length := by
        rcases hd : j - acc.length with _ | d
        · omega
        · rw [hd] at hy; simp at hy
      subst this
      simp at hy
      subst hy
      exact same

theorem step_copy_run {P : Program} {ops : Array Oper} {o : Oper} {a : Act} {w : World} {K : Act → World → Prop} {Q : Exit → Act → World → Prop} {E : Prop} (hgd : o.guard = none) (d s : Operand) (t t' : TypeId)
    (ho : o.op = .call { callee := .builtin .copy, args := #[d, s], argTypes := #[t, t'] }) (v u : Value) (hd : a.eval d = v) (hs : a.eval s = u) {v' : Value} {w' : World}
    (hr : (Builtin.copy_ #[t, t'] o.type #[v, u]).run P w = .ok v' w') (h : K (a.put o.dst v') w') :
    if Region.wanted o (yielded ops a.tmps) = true then Oper.wp P o a w K Q else E := by
  have hw : Region.wanted o (yielded ops a.tmps) = true := by simp [Region.wanted, hgd]
  rw [if_pos hw]
  exact Lib.wp_copy_run w d s t t' ho v u hd hs hr h

theorem Done.drewN {b : Nat} {w : World} {S B : Nat} (h : Done b w S B) (n : Nat) : Done b (w.drewN n) S B := h.frame (Nat.le_refl _) (fun _ _ _ => rfl)

theorem bel_drewN {B : Nat} {w w' : World} (h : Below B w w') (n : Nat) : Below B w (w'.drewN n) := ⟨h.os, h.tape, h.output, h.size, h.block⟩

theorem makeB (w : World) (N : Nat) (hN : N ≤ 4000) : ∃ cs : Array Value, cs.size = N ∧ (Instr.makeSlice 58 (.int .i64 (N : Int)) (.int .i64 (N : Int))).run Try.prog w = .ok (.slice (some ⟨w.heap.size, 0, none⟩) N N) (w.alloc (.cells cs 5)) := by
  obtain ⟨i0, hi, hz0, hz1, hz2⟩ := info_parts (P := Try.prog) (e := 5) (z := .int .u8 0) (size := 1) (bytes := 1) (by kernel_rfl)
  have h := run_make (P := Try.prog) w 58 5 i0 _ Try.underlying58 hi hz0 .i64 .i64 (N : Int) (N : Int) (by omega) (by omega) (by rw [hz2]; omega) (by omega)
  refine ⟨_, ?_, by simpa only [Int.toNat_natCast] using h⟩
  rw [hz1]
  simp [madeCells, Value.cells]

theorem Buf_drew {w0 wr : World} {h N : Nat} {acc : List UInt8} (hb : Lib.Buf w0 wr h N acc) (n : Nat) : Lib.Buf w0 (wr.drewN n) h N acc :=
  ⟨⟨hb.below.os, hb.below.tape, hb.below.output, hb.below.size, hb.below.block⟩, hb.there, hb.free, hb.holds, hb.fits⟩

theorem slice58 (W : World) (h N bp : Nat) (hb : bp ≤ N) : (Instr.slice 58 (.slice (some ⟨h, 0, none⟩) N N) (some (.int .i64 (bp : Int))) none none).run Try.prog W = .ok (Lib.tailV h N bp) W :=
  Lib.run_slice_tailV W 58 5 Try.underlying58 (fun w => by kernel_rfl) h N bp hb

theorem escL_take (l : List UInt8) (k : Nat) : (escL (l.take k)).length ≤ (escL l).length := by
  have h : escL l = escL (l.take k) ++ escL (l.drop k) := by
    unfold escL
    rw [← List.flatMap_append, List.take_append_drop]
  rw [h, List.length_append]
  omega

theorem escL_next (s : ByteArray) (k : Nat) (hk : k < s.size) : escL (s.data.toList.take (k + 1)) = escL (s.data.toList.take k) ++ esc1 s[k] := by
  rw [List.take_add_one, List.getElem?_eq_getElem (by simpa using hk)]
  exact escL_snoc _ _

theorem holds2 {w : World} {g c : Nat} {x y : UInt8} (h0 : w.cell? ⟨g, 0, none⟩ = some (.int .u8 x.toNat)) (h1 : w.cell? ⟨g, 1, none⟩ = some (.int .u8 y.toNat)) : Lib.HoldsBytes w (.slice (some ⟨g, 0, none⟩) 2 c) [x, y] := by
  refine ⟨_, _, rfl, (fun h => by cases h), fun a ha j z hz => ?_⟩
  cases ha
  rcases j with _ | _ | j
  · simp at hz; subst hz; exact h0
  · simp at hz; subst hz; exact h1
  · simp at hz

set_option maxRecDepth 100000 in
set_option maxHeartbeats 4000000 in
theorem repl_any {b S B : Nat} {w : World} (hD : Done b w S B) (s : ByteArray) (hs : s.size ≤ 2000) :
    Calls Try.prog 74 #[.pointer (some ⟨B, 0, none⟩), .string s] w fun e w' => e = .returned (.string (bytesOf (escL s.data.toList))) ∧ Below w.heap.size w w' := by
  obtain ⟨n, hn⟩ : ∃ n, s.size = n := ⟨_, rfl⟩
  have hnl : s.data.toList.length = n := by simpa using hn
  have t := hD.t
  have s0 := hD.s0
  have s1 := hD.s1
  obtain ⟨g1, d1, e10, _, _, y1, y2⟩ := hD.e10
  obtain ⟨g2, d2, e92, _, _, z1, z2⟩ := hD.e92
  have HD := Lib.hid hD; clear hD
  have r1 := nnil58
  have b10 : ((⟨#[10]⟩ : ByteArray)[0]).toNat = 10 := rfl
  have b92 : ((⟨#[92]⟩ : ByteArray)[0]).toNat = 92 := rfl
  by_cases h16 : 16 ≤ n
  · have h16' : (16 : Int) ≤ (n : Int) := by omega
    go_enter Try.func74, Try.ntmps74
    go_wp2_with fail
    obtain ⟨c10, hc10⟩ : ∃ c, s.data.toList.count 10 = c := ⟨_, rfl⟩
    obtain ⟨c92, hc92⟩ : ∃ c, s.data.toList.count 92 = c := ⟨_, rfl⟩
    have l10 : c10 ≤ n := by rw [← hc10, ← hnl]; exact List.count_le_length
    have l92 : c92 ≤ n := by rw [← hc92, ← hnl]; exact List.count_le_length
    have k1 := count_one s 10
    have k2 := count_one s 92
    rw [hc10] at k1
    rw [hc92] at k2
    have K1 := Lib.hid k1
    have K2 := Lib.hid k2
    have HC10 := Lib.hid hc10
    have HC92 := Lib.hid hc92
    clear k1 k2 hc10 hc92
    go_loopw [5, 6, 32] (fun ns any i wr => ∃ k q : Nat, k ≤ 2 ∧ ns = .int .i64 ((n + (if 1 ≤ k then c10 else 0) + (if 2 ≤ k then c92 else 0) : Nat) : Int) ∧ any = .bool (decide ((if 1 ≤ k then c10 else 0) + (if 2 ≤ k then c92 else 0) ≠ 0)) ∧ i = .int .i64 (k : Int) ∧ wr = w.drewN q) (fun _ _ i _ => 2 - (intOf i).toNat)
    case atStart => exact ⟨0, 0, by omega, by simp, by simp, rfl, rfl⟩
    case round =>
      obtain ⟨k, q, hk, rfl, rfl, rfl, hwr⟩ := hrel
      subst hwr
      have h3 : k = 0 ∨ k = 1 ∨ k = 2 := by omega
      rcases h3 with rfl | rfl | rfl
      · by_cases hz : c10 = 0
        · subst hz
          go_wp2_with (first | (go_at_call 76; refine (K1.out _).mono ?_; rintro e w3 ⟨rfl, rfl⟩) | go_in)
          go_roundw
          case rel => exact ⟨1, q, by omega, by simp, by simp, rfl, rfl⟩
          case measure => decide
        · have hz' : ((c10 : Int) == 0) = false := by simpa using hz
          go_wp2_with (first | (go_at_call 76; refine (K1.out _).mono ?_; rintro e w3 ⟨rfl, rfl⟩) | go_in)
          go_quiet (fail)
          go_wp2
          go_roundw
          case rel => exact ⟨1, _, by omega, by simp, by simp [hz], rfl, rfl⟩
          case measure => decide
      · by_cases hz : c92 = 0
        · subst hz
          go_wp2_with (first | (go_at_call 76; refine (K2.out _).mono ?_; rintro e w3 ⟨rfl, rfl⟩) | go_in)
          go_roundw
          case rel => exact ⟨2, q, by omega, by simp, by simp, rfl, rfl⟩
          case measure => decide
        · have hz' : ((c92 : Int) == 0) = false := by simpa using hz
          go_wp2_with (first | (go_at_call 76; refine (K2.out _).mono ?_; rintro e w3 ⟨rfl, rfl⟩) | go_in)
          go_quiet (fail)
          go_wp2
          go_roundw
          case rel => exact ⟨2, _, by omega, by simp, by simp [hz], rfl, rfl⟩
          case measure => decide
      · obtain ⟨m, hm⟩ : ∃ m, cnt s.data.toList = m := ⟨_, rfl⟩
        have hm2 : c10 + c92 = m := by rw [← hm]; unfold cnt; rw [HC10.out, HC92.out]
        rw [show (n + (if 1 ≤ 2 then c10 else 0) + (if 2 ≤ 2 then c92 else 0) : Nat) = n + m from by rw [← hm2]; simp; omega, show decide ((if 1 ≤ 2 then c10 else 0) + (if 2 ≤ 2 then c92 else 0) ≠ 0) = decide (m ≠ 0) from by rw [← hm2]; simp]
        have HM := Lib.hid hm
        clear hm hm2 HC10 HC92 K1 K2 l10 l92
        have hmn : m ≤ n := by
          rw [← HM.out, ← hnl]
          have := escL_cnt s.data.toList
          have := escL_length s.data.toList
          omega
        by_cases hm0 : m = 0
        · subst hm0
          rw [show decide ((0 : Nat) ≠ 0) = false from rfl]
          go_wp2_with fail
          go_ret
          refine ⟨?_, bel_drewN (Below.refl _ w) _⟩
          rw [cnt_zero _ HM.out, bytesOf_toList]
          rfl
        · obtain ⟨N, hN⟩ : ∃ N, n + m = N := ⟨_, rfl⟩
          rw [hN]
          have hd : decide (m ≠ 0) = true := by simpa using hm0
          rw [hd]
          have hNl : (escL s.data.toList).length = N := by rw [escL_cnt, HM.out, hnl, hN]
          have hN4 : N ≤ 4000 := by omega
          obtain ⟨cs, hcs, hmk⟩ := makeB (w.drewN q) N hN4
          clear hd hm0
          have HN := Lib.hid hN
          have HNL := Lib.hid hNl
          clear hN hNl
          go_wp2_with fail
          have hbf := Lib.Buf.start (w.drewN q) cs 5 N 0 (by omega)
          rw [show (((w.drewN q).alloc (.cells cs 5)).drewN 0) = ((w.drewN q).alloc (.cells cs 5)) from rfl] at hbf
          clear hmk
          obtain ⟨W0, hW0⟩ : ∃ W0, w.drewN q = W0 := ⟨_, rfl⟩
          have hD0 := HD.out.drewN q
          have hb0 := bel_drewN (Below.refl w.heap.size w) q
          have hsz0 : W0.heap.size = w.heap.size := by rw [← hW0]; rfl
          rw [hW0] at hbf hD0 hb0 ⊢
          have HB0 := Lib.hid hbf
          have HD0 := Lib.hid hD0
          have HW0 := Lib.hid hb0
          have HZ0 := Lib.hid hsz0
          generalize W0.alloc (.cells cs 5) = W1 at HB0 ⊢
          obtain ⟨H, hH⟩ : ∃ H, W0.heap.size = H := ⟨_, rfl⟩
          try rw [show w.heap.size = H from by rw [← hH, hsz0]]
          rw [hH] at HB0
          clear hbf hD0 hb0 hsz0 hW0 t s0 s1 e10 e92 y1 y2 z1 z2
          go_loopw [13, 14] (fun j i wr => ∃ k : Nat, k ≤ n ∧ j = .int .i64 ((escL (s.data.toList.take k)).length : Int) ∧ i = .int .i64 (k : Int) ∧ Lib.Buf W0 wr H N (escL (s.data.toList.take k))) (fun _ i _ => n - (intOf i).toNat)
          case atStart => exact ⟨0, Nat.zero_le _, rfl, rfl, HB0.out⟩
          case round =>
            clear HB0
            obtain ⟨k, hk, rfl, rfl, hbf⟩ := hrel
            have hbl := hbf.below
            have hDk : Done b wr S B := HD0.out.frame hbl.size (fun q _ hq => hbl.block q (by omega))
            by_cases hkn : k < n
            · have hks : k < s.size := by omega
              have hst := escL_next s k hks
              have hle := escL_take s.data.toList (k + 1)
              rw [HNL.out] at hle
              generalize escL (s.data.toList.take k) = acc at hst hbf ⊢
              rw [hst] at hle
              have HST := Lib.hid hst
              have HBF := Lib.hid hbf
              have hBs := hDk.B1
              by_cases h10 : s[k] = 10
              · obtain ⟨g, d, e10, _, gl, y1, y2⟩ := HD0.out.e10
                have hv := holds2 (x := 92) (y := 110) (c := d) y1 y2
                have hc := cell_later (hbl.mono (by omega)) e10
                have hb : s[k].toNat = 10 := by rw [h10]; rfl
                rw [h10] at hle
                have hfit : acc.length + 2 ≤ N := by simpa [esc1] using hle
                have hslice := fun W => slice58 W H N acc.length (by omega)
                obtain ⟨wc, hcopy, hbf2⟩ := Lib.copy_part (P := Try.prog) W0 wr.drew H N acc [92, 110] _ 58 3 5 Try.underlying58 (by kernel_rfl) (by omega) (Buf_drew HBF.out 1) hv hfit
                have HBF2 := Lib.hid hbf2
                have HCOPY := Lib.hid hcopy
                clear hbf2 hcopy hv hbl hDk y1 y2 hst hbf hle
                go_wp2
                go_region_law (first
                  | (refine step_copy_run rfl (.tmp 105) (.tmp 111) 58 58 rfl _ _ rfl rfl HCOPY.out ?_)
                  | fail)
                all_goals
                  try go_wp2
                  go_simp
                  go_roundw
                  case rel => exact ⟨k + 1, by omega, by rw [HST.out, h10, List.length_append]; rfl, by go_num, by rw [HST.out, h10]; exact HBF2.out⟩
                  case measure => simp [intOf]; omega
              · by_cases h92 : s[k] = 92
                · obtain ⟨g, d, e92, _, gl, y1, y2⟩ := HD0.out.e92
                  have hv := holds2 (x := 92) (y := 92) (c := d) y1 y2
                  have hc := cell_later (hbl.mono (by omega)) e92
                  have hb : s[k].toNat = 92 := by rw [h92]; rfl
                  rw [h92] at hle
                  have hfit : acc.length + 2 ≤ N := by simpa [esc1] using hle
                  have hslice := fun W => slice58 W H N acc.length (by omega)
                  obtain ⟨wc, hcopy, hbf2⟩ := Lib.copy_part (P := Try.prog) W0 wr.drew H N acc [92, 92] _ 58 3 5 Try.underlying58 (by kernel_rfl) (by omega) (Buf_drew HBF.out 1) hv hfit
                  have HBF2 := Lib.hid hbf2
                  have HCOPY := Lib.hid hcopy
                  clear hbf2 hcopy hv hbl hDk y1 y2 hst hbf hle
                  go_wp2
                  go_region_law (first
                    | (refine step_copy_run rfl (.tmp 105) (.tmp 111) 58 58 rfl _ _ rfl rfl HCOPY.out ?_)
                    | fail)
                  all_goals
                    try go_wp2
                    go_simp
                    go_roundw
                    case rel => exact ⟨k + 1, by omega, by rw [HST.out, h92, List.length_append]; rfl, by go_num, by rw [HST.out, h92]; exact HBF2.out⟩
                    case measure => simp [intOf]; omega
                · have he : esc1 s[k] = [s[k]] := by simp [esc1, h10, h92]
                  have n10 : s[k].toNat ≠ 10 := fun e => h10 (UInt8.toNat_inj.1 e)
                  have n92 : s[k].toNat ≠ 92 := fun e => h92 (UInt8.toNat_inj.1 e)
                  have hlt : s[k].toNat < 256 := s[k].toNat_lt
                  have hc := hDk.eo s[k].toNat hlt n10 n92
                  rw [he] at hle
                  have hfit : acc.length < N := by
                    have h1 : acc.length + 1 ≤ N := by simpa using hle
                    omega
                  have hbf2 := Buf_push HBF.out s[k] hfit
                  obtain ⟨u, hu⟩ := Option.isSome_iff_exists.1 (HBF.out.there _ hfit)
                  have hf := HBF.out.free _ hfit
                  have hlt' : (s[k].toNat : Int) < 256 := by omega
                  have HE := Lib.hid he
                  have HBF2 := Lib.hid hbf2
                  clear hbf2 hbl hDk hst hbf hle h10 h92 n10 n92 he
                  go_wp2
                  go_roundw
                  case rel => exact ⟨k + 1, by omega, by rw [HST.out, HE.out, List.length_append]; rfl, by go_num, by rw [HST.out, HE.out]; exact HBF2.out⟩
                  case measure => simp [intOf]; omega
            · obtain rfl : k = n := by omega
              have ht : s.data.toList.take k = s.data.toList := List.take_of_length_le (by omega)
              rw [ht] at hbf
              have hst := run_convert_bytes_back (P := Try.prog) wr 58 9 5 ⟨H, 0, none⟩ N (escL s.data.toList) Try.underlying58 Try.underlying5 Try.underlying9 (fun j hj => by
                rw [show ((⟨H, 0, none⟩ : Addr).add j) = ⟨H, j, none⟩ from by unfold Addr.add; split <;> simp_all]
                exact hbf.holds j _ (List.getElem?_eq_getElem hj))
              rw [HNL.out] at hst
              have HBL := Lib.hid (hbl.mono (show w.heap.size ≤ H by rw [← hH, HZ0.out]; exact Nat.le_refl _))
              clear hkn hbf hbl hDk
              go_wp2
              go_ret
              exact ⟨rfl, HW0.out.trans HBL.out⟩
  · have h16' : ¬ (16 : Int) ≤ (n : Int) := by omega
    go_enter Try.func74, Try.ntmps74
    go_wp2_with fail
    go_loopw [5, 6, 10] (fun ns any i wr => ∃ k q : Nat, k ≤ n ∧ ns = .int .i64 ((n + cnt (s.data.toList.take k) : Nat) : Int) ∧ any = .bool (decide (cnt (s.data.toList.take k) ≠ 0)) ∧ i = .int .i64 (k : Int) ∧ wr = w.drewN q) (fun _ _ i _ => n - (intOf i).toNat)
    case atStart => exact ⟨0, 0, by omega, rfl, rfl, rfl, rfl⟩
    case round =>
      obtain ⟨k, q, hk, rfl, rfl, rfl, hwr⟩ := hrel
      subst hwr
      by_cases hkn : k < n
      · have hks : k < s.size := by omega
        have hct : cnt (s.data.toList.take (k + 1)) = cnt (s.data.toList.take k) + (if s[k] = 10 then 1 else if s[k] = 92 then 1 else 0) := by
          rw [List.take_add_one, List.getElem?_eq_getElem (by simpa using hks)]
          exact cnt_snoc _ _
        have hcl : cnt (s.data.toList.take k) ≤ 4000 := by
          have h1 := escL_cnt (s.data.toList.take k)
          have h2 := escL_length (s.data.toList.take k)
          have h3 : (s.data.toList.take k).length ≤ k := List.length_take_le _ _
          omega
        generalize cnt (s.data.toList.take k) = x at hct hcl ⊢
        have HCT := Lib.hid hct
        have hDk := HD.out.drewN q
        by_cases h10 : s[k] = 10
        · have hb : s[k].toNat = 10 := by rw [h10]; rfl
          rw [if_pos h10] at hct
          have HC := Lib.hid hct
          clear hct hDk h10
          go_wp2
          go_roundw
          case rel => exact ⟨k + 1, q, by omega, by rw [HC.out]; go_num, by rw [HC.out]; simp, by go_num, rfl⟩
          case measure => simp [intOf]; omega
        · by_cases h92 : s[k] = 92
          · have hb : s[k].toNat = 92 := by rw [h92]; rfl
            rw [if_neg h10, if_pos h92] at hct
            have HC := Lib.hid hct
            clear hct hDk h10 h92
            go_wp2
            go_roundw
            case rel => exact ⟨k + 1, q, by omega, by rw [HC.out]; go_num, by rw [HC.out]; simp, by go_num, rfl⟩
            case measure => simp [intOf]; omega
          · have n10 : s[k].toNat ≠ 10 := fun e => h10 (UInt8.toNat_inj.1 e)
            have n92 : s[k].toNat ≠ 92 := fun e => h92 (UInt8.toNat_inj.1 e)
            have hlt : s[k].toNat < 256 := s[k].toNat_lt
            have hc := HD.out.eo s[k].toNat hlt n10 n92
            have hlt' : (s[k].toNat : Int) < 256 := by omega
            rw [if_neg h10, if_neg h92] at hct
            have HC := Lib.hid hct
            clear hct hDk h10 h92 n10 n92
            go_wp2
            go_roundw
            case rel => exact ⟨k + 1, q, by omega, by rw [HC.out]; go_num, by rw [HC.out]; simp, by go_num, rfl⟩
            case measure => simp [intOf]; omega
      · have ht : s.data.toList.take k = s.data.toList := List.take_of_length_le (by omega)
        rw [ht]
        obtain ⟨m, hm⟩ : ∃ m, cnt s.data.toList = m := ⟨_, rfl⟩
        rw [hm]
        have HM := Lib.hid hm
        clear hm ht
        have hmn : m ≤ n := by
          rw [← HM.out, ← hnl]
          have := escL_cnt s.data.toList
          have := escL_length s.data.toList
          omega
        by_cases hm0 : m = 0
        · subst hm0
          rw [show decide ((0 : Nat) ≠ 0) = false from rfl]
          go_wp2_with fail
          go_ret
          refine ⟨?_, bel_drewN (Below.refl _ w) _⟩
          rw [cnt_zero _ HM.out, bytesOf_toList]
          rfl
        · obtain ⟨N, hN⟩ : ∃ N, n + m = N := ⟨_, rfl⟩
          rw [hN]
          have hd : decide (m ≠ 0) = true := by simpa using hm0
          rw [hd]
          have hNl : (escL s.data.toList).length = N := by rw [escL_cnt, HM.out, hnl, hN]
          have hN4 : N ≤ 4000 := by omega
          obtain ⟨cs, hcs, hmk⟩ := makeB (w.drewN q) N hN4
          clear hd hm0
          have HN := Lib.hid hN
          have HNL := Lib.hid hNl
          clear hN hNl
          go_wp2_with fail
          have hbf := Lib.Buf.start (w.drewN q) cs 5 N 0 (by omega)
          rw [show (((w.drewN q).alloc (.cells cs 5)).drewN 0) = ((w.drewN q).alloc (.cells cs 5)) from rfl] at hbf
          clear hmk
          obtain ⟨W0, hW0⟩ : ∃ W0, w.drewN q = W0 := ⟨_, rfl⟩
          have hD0 := HD.out.drewN q
          have hb0 := bel_drewN (Below.refl w.heap.size w) q
          have hsz0 : W0.heap.size = w.heap.size := by rw [← hW0]; rfl
          rw [hW0] at hbf hD0 hb0 ⊢
          have HB0 := Lib.hid hbf
          have HD0 := Lib.hid hD0
          have HW0 := Lib.hid hb0
          have HZ0 := Lib.hid hsz0
          generalize W0.alloc (.cells cs 5) = W1 at HB0 ⊢
          obtain ⟨H, hH⟩ : ∃ H, W0.heap.size = H := ⟨_, rfl⟩
          try rw [show w.heap.size = H from by rw [← hH, hsz0]]
          rw [hH] at HB0
          clear hbf hD0 hb0 hsz0 hW0 t s0 s1 e10 e92 y1 y2 z1 z2
          go_loopw [13, 14] (fun j i wr => ∃ k : Nat, k ≤ n ∧ j = .int .i64 ((escL (s.data.toList.take k)).length : Int) ∧ i = .int .i64 (k : Int) ∧ Lib.Buf W0 wr H N (escL (s.data.toList.take k))) (fun _ i _ => n - (intOf i).toNat)
          case atStart => exact ⟨0, Nat.zero_le _, rfl, rfl, HB0.out⟩
          case round =>
            clear HB0
            obtain ⟨k, hk, rfl, rfl, hbf⟩ := hrel
            have hbl := hbf.below
            have hDk : Done b wr S B := HD0.out.frame hbl.size (fun q _ hq => hbl.block q (by omega))
            by_cases hkn : k < n
            · have hks : k < s.size := by omega
              have hst := escL_next s k hks
              have hle := escL_take s.data.toList (k + 1)
              rw [HNL.out] at hle
              generalize escL (s.data.toList.take k) = acc at hst hbf ⊢
              rw [hst] at hle
              have HST := Lib.hid hst
              have HBF := Lib.hid hbf
              have hBs := hDk.B1
              by_cases h10 : s[k] = 10
              · obtain ⟨g, d, e10, _, gl, y1, y2⟩ := HD0.out.e10
                have hv := holds2 (x := 92) (y := 110) (c := d) y1 y2
                have hc := cell_later (hbl.mono (by omega)) e10
                have hb : s[k].toNat = 10 := by rw [h10]; rfl
                rw [h10] at hle
                have hfit : acc.length + 2 ≤ N := by simpa [esc1] using hle
                have hslice := fun W => slice58 W H N acc.length (by omega)
                obtain ⟨wc, hcopy, hbf2⟩ := Lib.copy_part (P := Try.prog) W0 wr.drew H N acc [92, 110] _ 58 3 5 Try.underlying58 (by kernel_rfl) (by omega) (Buf_drew HBF.out 1) hv hfit
                have HBF2 := Lib.hid hbf2
                have HCOPY := Lib.hid hcopy
                clear hbf2 hcopy hv hbl hDk y1 y2 hst hbf hle
                go_wp2
                go_region_law (first
                  | (refine step_copy_run rfl (.tmp 105) (.tmp 111) 58 58 rfl _ _ rfl rfl HCOPY.out ?_)
                  | fail)
                all_goals
                  try go_wp2
                  go_simp
                  go_roundw
                  case rel => exact ⟨k + 1, by omega, by rw [HST.out, h10, List.length_append]; rfl, by go_num, by rw [HST.out, h10]; exact HBF2.out⟩
                  case measure => simp [intOf]; omega
              · by_cases h92 : s[k] = 92
                · obtain ⟨g, d, e92, _, gl, y1, y2⟩ := HD0.out.e92
                  have hv := holds2 (x := 92) (y := 92) (c := d) y1 y2
                  have hc := cell_later (hbl.mono (by omega)) e92
                  have hb : s[k].toNat = 92 := by rw [h92]; rfl
                  rw [h92] at hle
                  have hfit : acc.length + 2 ≤ N := by simpa [esc1] using hle
                  have hslice := fun W => slice58 W H N acc.length (by omega)
                  obtain ⟨wc, hcopy, hbf2⟩ := Lib.copy_part (P := Try.prog) W0 wr.drew H N acc [92, 92] _ 58 3 5 Try.underlying58 (by kernel_rfl) (by omega) (Buf_drew HBF.out 1) hv hfit
                  have HBF2 := Lib.hid hbf2
                  have HCOPY := Lib.hid hcopy
                  clear hbf2 hcopy hv hbl hDk y1 y2 hst hbf hle
                  go_wp2
                  go_region_law (first
                    | (refine step_copy_run rfl (.tmp 105) (.tmp 111) 58 58 rfl _ _ rfl rfl HCOPY.out ?_)
                    | fail)
                  all_goals
                    try go_wp2
                    go_simp
                    go_roundw
                    case rel => exact ⟨k + 1, by omega, by rw [HST.out, h92, List.length_append]; rfl, by go_num, by rw [HST.out, h92]; exact HBF2.out⟩
                    case measure => simp [intOf]; omega
                · have he : esc1 s[k] = [s[k]] := by simp [esc1, h10, h92]
                  have n10 : s[k].toNat ≠ 10 := fun e => h10 (UInt8.toNat_inj.1 e)
                  have n92 : s[k].toNat ≠ 92 := fun e => h92 (UInt8.toNat_inj.1 e)
                  have hlt : s[k].toNat < 256 := s[k].toNat_lt
                  have hc := hDk.eo s[k].toNat hlt n10 n92
                  rw [he] at hle
                  have hfit : acc.length < N := by
                    have h1 : acc.length + 1 ≤ N := by simpa using hle
                    omega
                  have hbf2 := Buf_push HBF.out s[k] hfit
                  obtain ⟨u, hu⟩ := Option.isSome_iff_exists.1 (HBF.out.there _ hfit)
                  have hf := HBF.out.free _ hfit
                  have hlt' : (s[k].toNat : Int) < 256 := by omega
                  have HE := Lib.hid he
                  have HBF2 := Lib.hid hbf2
                  clear hbf2 hbl hDk hst hbf hle h10 h92 n10 n92 he
                  go_wp2
                  go_roundw
                  case rel => exact ⟨k + 1, by omega, by rw [HST.out, HE.out, List.length_append]; rfl, by go_num, by rw [HST.out, HE.out]; exact HBF2.out⟩
                  case measure => simp [intOf]; omega
            · obtain rfl : k = n := by omega
              have ht : s.data.toList.take k = s.data.toList := List.take_of_length_le (by omega)
              rw [ht] at hbf
              have hst := run_convert_bytes_back (P := Try.prog) wr 58 9 5 ⟨H, 0, none⟩ N (escL s.data.toList) Try.underlying58 Try.underlying5 Try.underlying9 (fun j hj => by
                rw [show ((⟨H, 0, none⟩ : Addr).add j) = ⟨H, j, none⟩ from by unfold Addr.add; split <;> simp_all]
                exact hbf.holds j _ (List.getElem?_eq_getElem hj))
              rw [HNL.out] at hst
              have HBL := Lib.hid (hbl.mono (show w.heap.size ≤ H by rw [← hH, HZ0.out]; exact Nat.le_refl _))
              clear hkn hbf hbl hDk
              go_wp2
              go_ret
              exact ⟨rfl, HW0.out.trans HBL.out⟩
end Go.Proofs.Ytkenoljnacepaaa
