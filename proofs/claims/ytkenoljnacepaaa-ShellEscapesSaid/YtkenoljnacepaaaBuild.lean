/-
  What strings.Replacer's build makes of the four texts.
-/
import Derived.Test.YtkenoljnacepaaaTab
namespace Go.Proofs.Ytkenoljnacepaaa
open Go.RowKit

theorem Tab.start (w : World) : Tab w ((w.alloc (.cells #[.string ⟨#[]⟩, .string ⟨#[]⟩] 9)).alloc (.cells (Z (.slice (some ⟨w.heap.size, 0, none⟩) 0 2)) 61)) w.heap.size (w.heap.size + 1) 0 := by
  have hS : ((w.alloc (.cells #[.string ⟨#[]⟩, .string ⟨#[]⟩] 9)).alloc (.cells (Z (.slice (some ⟨w.heap.size, 0, none⟩) 0 2)) 61)).heap[w.heap.size]? = some (.cells #[.string ⟨#[]⟩, .string ⟨#[]⟩] 9 (0, 0)) := by
    rw [heap_alloc_old _ _ (by simp), heap_alloc_new]
  have hB : ((w.alloc (.cells #[.string ⟨#[]⟩, .string ⟨#[]⟩] 9)).alloc (.cells (Z (.slice (some ⟨w.heap.size, 0, none⟩) 0 2)) 61)).heap[w.heap.size + 1]? = some (.cells (Z (.slice (some ⟨w.heap.size, 0, none⟩) 0 2)) 61 (0, 0)) := by
    have := heap_alloc_new (w.alloc (.cells #[.string ⟨#[]⟩, .string ⟨#[]⟩] 9)) (.cells (Z (.slice (some ⟨w.heap.size, 0, none⟩) 0 2)) 61)
    simpa using this
  have hZ : ∀ (v : Value) (x : Nat), x < 256 → (Z v)[x]? = some (.slice none 0 0) := fun v x hx => by
    unfold Z
    rw [Array.getElem?_push_lt (by simpa using hx)]
    simp
  have hZ2 : ∀ (v : Value), (Z v)[256]? = some v := fun v => by
    unfold Z
    have h : (Array.replicate 256 (Value.slice none 0 0)).size = 256 := Array.size_replicate
    generalize Array.replicate 256 (Value.slice none 0 0) = l at h
    rw [← h]
    exact Array.getElem?_push_size
  have cB : ∀ x : Nat, ((w.alloc (.cells #[.string ⟨#[]⟩, .string ⟨#[]⟩] 9)).alloc (.cells (Z (.slice (some ⟨w.heap.size, 0, none⟩) 0 2)) 61)).cell? ⟨w.heap.size + 1, x, none⟩ = (Z (.slice (some ⟨w.heap.size, 0, none⟩) 0 2))[x]? := fun x => by
    unfold World.cell?
    rw [hB]; rfl
  have cS : ∀ x : Nat, ((w.alloc (.cells #[.string ⟨#[]⟩, .string ⟨#[]⟩] 9)).alloc (.cells (Z (.slice (some ⟨w.heap.size, 0, none⟩) 0 2)) 61)).cell? ⟨w.heap.size, x, none⟩ = (#[.string ⟨#[]⟩, .string ⟨#[]⟩] : Array Value)[x]? := fun x => by
    unfold World.cell?
    rw [hS]; rfl
  refine ⟨((Below.refl _ w).alloc (Nat.le_refl _) _).alloc (by simp) _, Nat.le_refl _, by omega, by simp; omega, by simp, by omega, fun j => by (unfold World.frozen?; rw [hS]; simp), fun j => by (unfold World.frozen?; rw [hB]; simp), (cB 256).trans (hZ2 _), (cS 0).trans rfl, (cS 1).trans rfl,
    ⟨_, (cB 10).trans (hZ _ 10 (by decide)), rfl⟩, ⟨_, (cB 92).trans (hZ _ 92 (by decide)), rfl⟩, fun x hx _ _ => (cB x).trans (hZ _ x hx)⟩

set_option maxRecDepth 100000 in
set_option maxHeartbeats 1600000 in
theorem build_any (R g c : Nat) (w : World) (h4 : w.cell? ⟨R, 4, none⟩ = some (.slice (some ⟨g, 0, none⟩) 4 c))
    (c0 : w.cell? ⟨g, 0, none⟩ = some (.string ⟨#[92]⟩)) (c1 : w.cell? ⟨g, 1, none⟩ = some (.string ⟨#[92, 92]⟩)) (c2 : w.cell? ⟨g, 2, none⟩ = some (.string ⟨#[10]⟩)) (c3 : w.cell? ⟨g, 3, none⟩ = some (.string ⟨#[92, 110]⟩)) :
    Calls Try.prog 12 #[.pointer (some ⟨R, 0, none⟩)] w fun e w' => ∃ S B, e = .returned (.iface 62 (.pointer (some ⟨B, 0, none⟩))) ∧ Tab w w' S B 2 := by
  have q1 := makeStr
  have q3 := zero61
  have r1 := nil58
  have r2 := str10
  have r3 := str92
  have r4 := bytes58
  have b10 : ((⟨#[10]⟩ : ByteArray)[0]).toNat = 10 := rfl
  have b92 : ((⟨#[92]⟩ : ByteArray)[0]).toNat = 92 := rfl
  have q4 := store61
  go_enter Try.func12, Try.ntmps12
  go_wp2_with fail
  go_loopw [4, 5] (fun b i wr => ∃ k : Nat, k ≤ 2 ∧ b = .bool (decide (k = 0)) ∧ i = .int .i64 ((2 * k : Nat) : Int) ∧ wr = w) (fun _ i _ => 4 - (intOf i).toNat)
  case atStart => exact ⟨0, by omega, rfl, rfl, rfl⟩
  case round =>
    obtain ⟨k, hk, rfl, rfl, rfl⟩ := hrel
    have h3 : k = 0 ∨ k = 1 ∨ k = 2 := by omega
    rcases h3 with rfl | rfl | rfl
    · go_wp2_with fail
      go_roundw
      case rel => exact ⟨1, by omega, rfl, rfl, trivial⟩
      case measure => decide
    · go_wp2_with fail
      go_roundw
      case rel => exact ⟨2, by omega, rfl, rfl, trivial⟩
      case measure => decide
    · rename World => W0
      go_wp2_with fail
      have HP := Tab.start W0
      generalize (W0.alloc (.cells #[.string ⟨#[]⟩, .string ⟨#[]⟩] 9)).alloc (.cells (Z (.slice (some ⟨W0.heap.size, 0, none⟩) 0 2)) 61) = W at HP ⊢
      generalize W0.heap.size + 1 = B at HP ⊢
      generalize hS : W0.heap.size = S at HP
      clear hS
      have HP0 := Lib.hid HP
      clear HP q1 q3 q4
      go_loopw [12] (fun i w2 => ∃ k : Nat, k ≤ 2 ∧ i = .int .i64 (2 - 2 * (k : Int)) ∧ Tab W0 w2 S B k) (fun i _ => (intOf i + 2).toNat)
      case atStart => exact ⟨0, by omega, rfl, HP0.out⟩
      case round =>
        clear HP0
        obtain ⟨k, hk, rfl, ht⟩ := hrel
        have c0' := cell_later ht.below c0
        have c1' := cell_later ht.below c1
        have c2' := cell_later ht.below c2
        have c3' := cell_later ht.below c3
        have lS := ht.S1
        have lB := ht.B1
        have ne := ht.ne
        have t := ht.t
        have tf := ht.fB 256
        have HT := Lib.hid ht
        clear ht
        clear c0 c1 c2 c3 h4
        have h3 : k = 0 ∨ k = 1 ∨ k = 2 := by omega
        rcases h3 with rfl | rfl | rfl
        · obtain ⟨v, x10, rfl⟩ := HT.out.e10
          have f1 : ∀ o1 o2, ((wr.alloc o1).alloc o2).cell? ⟨S, 0, none⟩ = some (.string ⟨#[]⟩) := fun o1 o2 => (two_past lS).trans HT.out.s0
          have f2 : ∀ o1 o2, ((wr.alloc o1).alloc o2).frozen? ⟨S, 0, none⟩ = false := fun o1 o2 => (two_past_f lS).trans (HT.out.fS 0)
          have f3 : ∀ o1 o2, ((wr.alloc o1).alloc o2).cell? ⟨B, 256, none⟩ = some (.slice (some ⟨S, 0, none⟩) 0 2) := fun o1 o2 => (two_past lB).trans t
          have f4 : ∀ o1 o2, ((wr.alloc o1).alloc o2).frozen? ⟨B, 256, none⟩ = false := fun o1 o2 => (two_past_f lB).trans tf
          have f5 : ∀ o1 o2 v1 v2 o3, (((((wr.alloc o1).alloc o2).setCell ⟨S, 0, none⟩ v1).setCell ⟨B, 256, none⟩ v2).alloc o3).cell? ⟨B, 10, none⟩ = some (.slice none 0 0) := fun o1 o2 v1 v2 o3 => by
            rw [three_past lB, World.cell?_setCell_other _ _ _ _ (by simp), World.cell?_setCell_other _ _ _ _ (by intro e; exact ne (by simpa using congrArg Addr.block e)), two_past lB]; exact x10
          have f6 : ∀ o1 o2 v1 v2 o3, (((((wr.alloc o1).alloc o2).setCell ⟨S, 0, none⟩ v1).setCell ⟨B, 256, none⟩ v2).alloc o3).frozen? ⟨B, 10, none⟩ = false := fun o1 o2 v1 v2 o3 => by
            rw [World.frozen?_alloc_past _ _ _ (by simp [World.setCell]; omega), World.frozen?_setCell, World.frozen?_setCell, two_past_f lB]; exact HT.out.fB 10
          clear lS lB
          go_wp2_with fail
          go_roundw
          case rel => exact ⟨1, by omega, rfl, HT.out.step0 _ _ _ _ _⟩
          case measure => decide
        · obtain ⟨v, x92, rfl⟩ := HT.out.e92
          have f1 : ∀ o1 o2, ((wr.alloc o1).alloc o2).cell? ⟨S, 1, none⟩ = some (.string ⟨#[]⟩) := fun o1 o2 => (two_past lS).trans HT.out.s1
          have f2 : ∀ o1 o2, ((wr.alloc o1).alloc o2).frozen? ⟨S, 1, none⟩ = false := fun o1 o2 => (two_past_f lS).trans (HT.out.fS 1)
          have f3 : ∀ o1 o2, ((wr.alloc o1).alloc o2).cell? ⟨B, 256, none⟩ = some (.slice (some ⟨S, 0, none⟩) 1 2) := fun o1 o2 => (two_past lB).trans t
          have f4 : ∀ o1 o2, ((wr.alloc o1).alloc o2).frozen? ⟨B, 256, none⟩ = false := fun o1 o2 => (two_past_f lB).trans tf
          have f5 : ∀ o1 o2 v1 v2 o3, (((((wr.alloc o1).alloc o2).setCell ⟨S, 1, none⟩ v1).setCell ⟨B, 256, none⟩ v2).alloc o3).cell? ⟨B, 92, none⟩ = some (.slice none 0 0) := fun o1 o2 v1 v2 o3 => by
            rw [three_past lB, World.cell?_setCell_other _ _ _ _ (by simp), World.cell?_setCell_other _ _ _ _ (by intro e; exact ne (by simpa using congrArg Addr.block e)), two_past lB]; exact x92
          have f6 : ∀ o1 o2 v1 v2 o3, (((((wr.alloc o1).alloc o2).setCell ⟨S, 1, none⟩ v1).setCell ⟨B, 256, none⟩ v2).alloc o3).frozen? ⟨B, 92, none⟩ = false := fun o1 o2 v1 v2 o3 => by
            rw [World.frozen?_alloc_past _ _ _ (by simp [World.setCell]; omega), World.frozen?_setCell, World.frozen?_setCell, two_past_f lB]; exact HT.out.fB 92
          clear lS lB
          go_wp2_with fail
          go_roundw
          case rel => exact ⟨2, by omega, rfl, HT.out.step1 _ _ _ _ _⟩
          case measure => decide
        · go_wp2_with fail
          go_ret
          exact ⟨S, B, rfl, HT.out⟩
end Go.Proofs.Ytkenoljnacepaaa
