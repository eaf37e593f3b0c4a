/-
  Same: petasoshelp.Same, Plain, Record, Records: of two lists that are alike they answer true.
-/
import Derived.Test.YtkehhopdppampaaRows2
import Derived.Test.YtkehhopdppampaaBox
namespace Go.Proofs.Ytkehhopdppampaa
set_option linter.unusedVariables false
set_option linter.unusedSimpArgs false
open Go.RowKit Go.Sort

theorem plain1_any (x : Int) (w : World) : Calls Try.prog 68 #[.int .u32 x, .int .u32 x] w fun e w' => e = .returned (.bool true) ∧ Gr w w' := by
  go_enter Try.func68, Try.ntmps68
  go_wp2
  go_ret
  exact ⟨rfl, Gr.refl _⟩

set_option maxHeartbeats 400000 in
theorem sameU_true (X Y : Nat → Prop) (va vb : Value) (l : List Int) (w : World) (hA : Nums X .u32 w va l) (hB : Nums Y .u32 w vb l) (hl : l.length ≤ 1000000000000000) :
    Calls Try.prog 67 #[va, vb, .func (.func 68) #[] #[]] w fun e w' => e = .returned (.bool true) ∧ Gr w w' := by
  have hm := mixed
  obtain ⟨a, cap, rfl, hl1, hc⟩ := hA
  obtain ⟨a2, cap2, rfl, hl2, hc2⟩ := hB
  go_enter Try.func67, Try.ntmps67
  go_wp2
  go_loopw [7] (fun i wr => ∃ k : Nat, k ≤ l.length ∧ i = .int .i64 k ∧ Gr w wr) (fun i _ => l.length - (intOf i).toNat)
  case atStart => exact ⟨0, by omega, rfl, Gr.refl _⟩
  case round =>
    obtain ⟨k, hk, rfl, hg⟩ := hrel
    have HG := hid hg
    by_cases hlt : k < l.length
    · obtain ⟨b1, o1, rfl, hx, hcc⟩ := hc (by omega)
      obtain ⟨b2, o2, rfl, hx2, hcc2⟩ := hc2 (by omega)
      have c0 := hg.cell (hcc k hlt)
      have c1 := hg.cell (hcc2 k hlt)
      have d0 := cell_grown (World.block_lt_of_cell? _ _ c0) c0
      have d1 := cell_grown (World.block_lt_of_cell? _ _ c1) c1
      generalize gx l k = x at *
      have hp : ∀ W, Calls Try.prog 68 #[.int .u32 x, .int .u32 x] W fun e w' => e = .returned (.bool true) ∧ Gr W w' := plain1_any x
      clear hc hc2 hcc hcc2 hg
      go_wp2_with fail
      refine wp_region_quiet_grown (by assumption) (by kernel_rfl) ?_
      repeat (go_big_quiet_step (first | (go_at_call 68; refine Calls.gr_of (hp _))))
      refine wpQuiet_nil ?_
      intro _ hw'
      obtain ⟨⟨nq, osq⟩, hw''⟩ := hw'
      subst hw''
      go_wp2
      go_roundw
      case rel => exact ⟨k + 1, by omega, by go_num, HG.out.trans (Gr.grow _ _ _)⟩
      case measure => simp [intOf]; omega
    · clear hc hc2 hg
      go_wp2
      go_ret
      exact ⟨rfl, HG.out⟩

set_option maxHeartbeats 400000 in
theorem plain_true (X Y : Nat → Prop) (va vb : Value) (l : List Int) (w : World) (hA : Nums X .u32 w va l) (hB : Nums Y .u32 w vb l) (hl : l.length ≤ 1000000000000000) :
    Calls Try.prog 54 #[va, vb] w fun e w' => e = .returned (.bool true) ∧ Gr w w' := by
  have h := sameU_true X Y va vb l w hA hB hl
  go_enter Try.func54, Try.ntmps54
  go_wp2_with (go_at_call 67; refine h.mono ?_; rintro e W ⟨rfl, hg⟩; have HG := hid hg; clear hg)
  go_ret
  exact ⟨rfl, HG.out⟩

set_option maxHeartbeats 400000 in
theorem record_true (X Y : Nat → Prop) (va vb : Value) (r : Rec) (w : World) (hA : RecV X w va r) (hB : RecV Y w vb r) (hl : r.vals.length ≤ 1000000000000000) :
    Calls Try.prog 35 #[va, vb] w fun e w' => e = .returned (.bool true) ∧ Gr w w' := by
  obtain ⟨s, rfl, hA⟩ := hA
  obtain ⟨s2, rfl, hB⟩ := hB
  have h := fun (w' : World) (h : Gr w w') => plain_true X Y s s2 r.vals w' (hA.gr h) (hB.gr h) hl
  clear hA hB
  go_enter Try.func35, Try.ntmps35
  go_wp2_with (go_at_call 54; refine (h _ ((Gr.alloc w _).trans (Gr.alloc _ _))).mono ?_; rintro e W ⟨rfl, hg⟩; have HG := hid hg; clear hg)
  go_ret
  exact ⟨rfl, ((Gr.alloc w _).trans (Gr.alloc _ _)).trans HG.out⟩

set_option maxHeartbeats 400000 in
theorem sameR_true (X Y : Nat → Prop) (va vb : Value) (l : List Rec) (w : World) (hA : Recs X w va l) (hB : Recs Y w vb l) (hl : l.length ≤ 1000000000000000) (hv : ∀ j, j < l.length → (rx l j).vals.length ≤ 1000000000000000) :
    Calls Try.prog 39 #[va, vb, .func (.func 35) #[] #[]] w fun e w' => e = .returned (.bool true) ∧ Gr w w' := by
  have hm := mixed
  obtain ⟨a, cap, rfl, hl1, hc⟩ := hA
  obtain ⟨a2, cap2, rfl, hl2, hc2⟩ := hB
  go_enter Try.func39, Try.ntmps39
  go_wp2
  go_loopw [7] (fun i wr => ∃ k : Nat, k ≤ l.length ∧ i = .int .i64 k ∧ Gr w wr) (fun i _ => l.length - (intOf i).toNat)
  case atStart => exact ⟨0, by omega, rfl, Gr.refl _⟩
  case round =>
    obtain ⟨k, hk, rfl, hg⟩ := hrel
    have HG := hid hg
    by_cases hlt : k < l.length
    · obtain ⟨b1, o1, rfl, hx, hcc⟩ := hc (by omega)
      obtain ⟨b2, o2, rfl, hx2, hcc2⟩ := hc2 (by omega)
      obtain ⟨s, c0, c1, c2, hs⟩ := hcc k hlt
      obtain ⟨s', e0, e1, e2, hs'⟩ := hcc2 k hlt
      have hvk := hv k hlt
      have c0 := hg.cell c0
      have c1 := hg.cell c1
      have c2 := hg.cell c2
      have e0 := hg.cell e0
      have e1 := hg.cell e1
      have e2 := hg.cell e2
      have f0 := cell_grown (World.block_lt_of_cell? _ _ c0) c0
      have f1 := cell_grown (World.block_lt_of_cell? _ _ c1) c1
      have f2 := cell_grown (World.block_lt_of_cell? _ _ c2) c2
      have g0 := cell_grown (World.block_lt_of_cell? _ _ e0) e0
      have g1 := cell_grown (World.block_lt_of_cell? _ _ e1) e1
      have g2 := cell_grown (World.block_lt_of_cell? _ _ e2) e2
      have hp := fun (W : World) (h : Gr w W) => record_true X Y _ _ (rx l k) W ⟨s, rfl, hs.gr h⟩ ⟨s', rfl, hs'.gr h⟩ hvk
      have HS : Hid (∃ a n c, s = .slice a n c) := by obtain ⟨a, c, h, _⟩ := hs; exact hid ⟨_, _, _, h⟩
      have HS' : Hid (∃ a n c, s' = .slice a n c) := by obtain ⟨a, c, h, _⟩ := hs'; exact hid ⟨_, _, _, h⟩
      obtain ⟨x1, x2, x3, rfl⟩ := HS.out
      obtain ⟨y1, y2, y3, rfl⟩ := HS'.out
      generalize rx l k = r at *
      clear hc hc2 hcc hcc2 hg hs hs' c0 c1 c2 e0 e1 e2
      go_wp2_with fail
      refine wp_region_quiet_grown (by assumption) (by kernel_rfl) ?_
      repeat (go_big_quiet_step (first | (go_at_call 35; refine Calls.gr_of (hp _ (HG.out.trans (Gr.grow _ _ _))))))
      refine wpQuiet_nil ?_
      intro _ hw'
      obtain ⟨⟨nq, osq⟩, hw''⟩ := hw'
      subst hw''
      go_wp2
      go_roundw
      case rel => exact ⟨k + 1, by omega, by go_num, HG.out.trans (Gr.grow _ _ _)⟩
      case measure => simp [intOf]; omega
    · clear hc hc2 hg
      go_wp2
      go_ret
      exact ⟨rfl, HG.out⟩

set_option maxHeartbeats 400000 in
theorem records_true (X Y : Nat → Prop) (va vb : Value) (l : List Rec) (w : World) (hA : Recs X w va l) (hB : Recs Y w vb l) (hl : l.length ≤ 1000000000000000) (hv : ∀ j, j < l.length → (rx l j).vals.length ≤ 1000000000000000) :
    Calls Try.prog 16 #[va, vb] w fun e w' => e = .returned (.bool true) ∧ Gr w w' := by
  have h := sameR_true X Y va vb l w hA hB hl hv
  clear hv hA hB
  go_enter Try.func16, Try.ntmps16
  go_wp2_with (go_at_call 39; refine h.mono ?_; rintro e W ⟨rfl, hg⟩; have HG := hid hg; clear hg)
  go_ret
  exact ⟨rfl, HG.out⟩

end Go.Proofs.Ytkehhopdppampaa
