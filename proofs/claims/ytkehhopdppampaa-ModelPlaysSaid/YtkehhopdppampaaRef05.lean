/-
  Ref05: petasosref05.In, Match: what they answer: as the box package does.
-/
import Derived.Test.YtkehhopdppampaaBox
import Derived.Test.YtkehhopdppampaaRows2
namespace Go.Proofs.Ytkehhopdppampaa
set_option linter.unusedVariables false
set_option linter.unusedSimpArgs false
open Go.RowKit Go.Sort

set_option maxHeartbeats 400000 in
theorem refIn_any (r : Rng) (v : Int) (w : World) :
    Calls Try.prog 49 #[.agg #[.int .i64 r.kind, .int .u32 r.lo, .int .u32 r.hi], .int .u32 v] w fun e w' => e = .returned (.bool (inB r v)) ∧ Gr w w' := by
  obtain ⟨k, lo, hi⟩ := r
  show Calls Try.prog 49 #[.agg #[.int .i64 k, .int .u32 lo, .int .u32 hi], .int .u32 v] w _
  by_cases h1 : k = 1
  · have e : inB ⟨k, lo, hi⟩ v = true := by simp [inB, h1]
    rw [e]; clear e
    subst h1
    go_enter Try.func49, Try.ntmps49
    go_wp2
    go_ret
    exact ⟨rfl, Gr.alloc _ _⟩
  · have b1 : (k == 1) = false := by simpa using h1
    by_cases h2 : k = 2
    · have e : inB ⟨k, lo, hi⟩ v = decide ((v - lo) % 4294967296 ≤ (hi - lo) % 4294967296) := by simp [inB, h2]
      rw [e]
      have E := hid e
      subst h2
      clear h1 e
      go_enter Try.func49, Try.ntmps49
      go_wp2
      go_ret
      exact ⟨rfl, Gr.alloc _ _⟩
    · have b2 : (k == 2) = false := by simpa using h2
      have e : inB ⟨k, lo, hi⟩ v = false := by simp [inB, h1, h2]
      rw [e]; clear e h1 h2
      go_enter Try.func49, Try.ntmps49
      go_wp2
      go_ret
      exact ⟨rfl, Gr.alloc _ _⟩

set_option maxHeartbeats 400000 in
theorem refMatch_any (X : Nat → Prop) (vb vv : Value) (b : List Rng) (vs : List Int) (w : World) (hB : Rngs X w vb b) (hV : Nums X .u32 w vv vs) (hb : b.length ≤ 1000000000000000) (hvl : vs.length ≤ 1000000000000000) (wb : WfB b) (wv : WfV vs) :
    Calls Try.prog 28 #[vb, vv] w fun e w' => e = .returned (.bool (mB b vs)) ∧ Gr w w' := by
  have hm := mixed
  obtain ⟨a, cap, rfl, hl, hc⟩ := hB
  obtain ⟨a2, cap2, rfl, hl2, hc2⟩ := hV
  by_cases hlen : b.length = vs.length
  · have hne : ((b.length : Int) != (vs.length : Int)) = false := by simp [hlen]
    have HL := hid hlen
    clear hlen
    go_enter Try.func28, Try.ntmps28
    go_wp2
    go_loopw [5] (fun i wr => ∃ k : Nat, k ≤ b.length ∧ Hid (∀ j, j < k → inB (bx b j) (gx vs j) = true) ∧ i = .int .i64 k ∧ Gr w wr) (fun i _ => b.length - (intOf i).toNat)
    case atStart => exact ⟨0, by omega, hid (by omega), rfl, Gr.refl _⟩
    case round =>
      obtain ⟨k, hk, HA, rfl, hg⟩ := hrel
      have HG := hid hg
      by_cases hlt : k < b.length
      · obtain ⟨b1, o1, rfl, hx, hcc⟩ := hc (by omega)
        obtain ⟨b2, o2, rfl, hx2, hcc2⟩ := hc2 (by have := HL.out; omega)
        obtain ⟨c0, c1, c2⟩ := hcc k hlt
        have c3 := hcc2 k (by have := HL.out; omega)
        have hlt2 : k < vs.length := by have := HL.out; omega
        have wr1 := wb k hlt
        have wv1 := wv k hlt2
        have c0' := hg.cell c0
        have c1' := hg.cell c1
        have c2' := hg.cell c2
        have c3' := hg.cell c3
        have hin := refIn_any (bx b k) (gx vs k)
        have HW : Hid (WfB b ∧ WfV vs) := ⟨wb, wv⟩
        have HS := @mB_stop b vs k HL.out hlt
        generalize hq : inB (bx b k) (gx vs k) = q at hin HS
        have HQ := hid hq
        generalize hr : bx b k = r at *
        generalize hx' : gx vs k = x at *
        have HR := hid hr
        have HX := hid hx'
        clear hr hx'
        clear hq hc hc2 hcc hcc2 wb wv wr1 wv1 c0 c1 c2 c3 hg
        have HS' := hid HS
        clear HS
        have d0 := cell_grown (World.block_lt_of_cell? _ _ c0') c0'
        have d1 := cell_grown (World.block_lt_of_cell? _ _ c1') c1'
        have d2 := cell_grown (World.block_lt_of_cell? _ _ c2') c2'
        have d3 := cell_grown (World.block_lt_of_cell? _ _ c3') c3'
        have G1 := HG
        clear c0' c1' c2' c3'
        go_wp2_with fail
        refine wp_region_quiet_grown (by assumption) (by kernel_rfl) ?_
        repeat (go_big_quiet_step (first | (go_at_call 49; refine Calls.gr_of (hin _))))
        refine wpQuiet_nil ?_
        intro _ hw'
        obtain ⟨⟨nq, osq⟩, hw''⟩ := hw'
        subst hw''
        cases q
        · go_wp2
          go_ret
          exact ⟨ret_bool (HS'.out (by trivial)).symm, G1.out.trans (Gr.grow _ _ _)⟩
        · go_wp2
          go_roundw
          case rel => exact ⟨k + 1, by omega, hid (fun j hj => by
              by_cases e : j = k
              · rw [e, HR.out, HX.out]; exact HQ.out
              · exact HA.out j (by omega)), by go_num, G1.out.trans (Gr.grow _ _ _)⟩
          case measure => simp [intOf]; omega
      · have E := hid (@mB_end b vs HL.out (fun j hj => HA.out j (by omega)))
        clear hc hc2 hg
        go_wp2
        go_ret
        exact ⟨ret_bool E.out.symm, HG.out⟩
  · have E := hid (mB_len hlen)
    have hne : ((b.length : Int) != (vs.length : Int)) = true := by rw [bne_iff_ne]; omega
    clear hlen hc hc2
    go_enter Try.func28, Try.ntmps28
    go_wp2
    go_ret
    exact ⟨ret_bool E.out.symm, Gr.refl _⟩

end Go.Proofs.Ytkehhopdppampaa
