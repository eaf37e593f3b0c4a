/-
  Newest: petasoslaw18.GatherNewest, walked: it answers true and turns nothing that was there.
-/
import Derived.Test.YtkehhopdppampaaAwake
namespace Go.Proofs.Ytkehhopdppampaa
set_option linter.unusedVariables false
set_option linter.unusedSimpArgs false
open Go.RowKit Go.Sort Go.Maps

def WfU (l : List Int) : Prop := ∀ j, j < l.length → W64 (gx l j)
def vBox (v : Int) : List Rng := [⟨2, v, v⟩]
/-- What the gathering has, behind some rounds. -/
def NewInv (id v : Int) (R : List Rec) (bst : Int) : Prop := (R = [] ∧ bst = 0) ∨ (R = [⟨id, bst, [v]⟩] ∧ 1 ≤ bst ∧ bst ≤ 50)
theorem vBox_next (v : Int) (h : W32 v) : mB (vBox v) [(v + 1) % 4294967296] = false := by
  obtain ⟨h0, h1⟩ := h
  simp [mB, vBox, inB]
  omega
theorem vBox_self (v : Int) (h : W32 v) : mB (vBox v) [v] = true := by
  simp [mB, vBox, inB]
theorem one_out {box : List Rng} {r : Rec} (R : List Rec) (h : mB box r.vals = false) : gcnt box R [r] = 0 ∧ gadd box R [r] = R := by
  simp [gcnt, gadd, gadd1, takes, h]
theorem NewInv.add {id v bst ver : Int} {R : List Rec} (hv : W32 v) (h : NewInv id v R bst) (h1 : 1 ≤ ver) (h2 : ver ≤ 50) :
    (bst < ver → gcnt (vBox v) R [⟨id, ver, [v]⟩] = 1 ∧ gadd (vBox v) R [⟨id, ver, [v]⟩] = [⟨id, ver, [v]⟩]) ∧ (¬ bst < ver → gcnt (vBox v) R [⟨id, ver, [v]⟩] = 0 ∧ gadd (vBox v) R [⟨id, ver, [v]⟩] = [⟨id, bst, [v]⟩]) := by
  have hm := vBox_self v hv
  rcases h with ⟨rfl, rfl⟩ | ⟨rfl, h3, h4⟩
  · refine ⟨fun _ => ?_, fun h => absurd (by omega) h⟩
    simp [gcnt, gadd, gadd1, takes, hm, newer, rfind, rput, rins]
  · refine ⟨fun hlt => ?_, fun hlt => ?_⟩
    · simp [gcnt, gadd, gadd1, takes, hm, newer, rfind, rput, rins, hlt]
    · simp [gcnt, gadd, gadd1, takes, hm, newer, rfind, rput, rins, hlt]

theorem wf_one {r : Rec} (h : WfRec r) : WfL [r] := fun j hj => by
  obtain rfl : j = 0 := by simpa using hj
  exact h
theorem wf_vBox {v : Int} (h : W32 v) : WfB (vBox v) := fun j hj => by
  obtain rfl : j = 0 := by simpa [vBox] using hj
  exact ⟨h, h⟩
/-- 'g.Add([]Record{{id, ver, []uint32{x}}})'. -/
theorem add_lit (p mb : Nat) (box : List Rng) (R : List Rec) (id ver x : Int) (wr : World) (hG : GRep (fun b => b = mb) wr p mb box R) (hmb : mb < wr.heap.size) (h1 : W64 id) (h2 : W64 ver) (h3 : W32 x) (wb : WfB box) (hb : box.length ≤ 1000000000000) (hR : R.length + 1 ≤ 1000000000000) :
    Calls Try.prog 15 #[.pointer (some ⟨p, 0, none⟩), .slice (some ⟨wr.heap.size + 1, 0, none⟩) 1 1] ((wr.alloc (.cells #[.int .u32 x] 39)).alloc (.cells #[.int .u64 id, .int .u64 ver, .slice (some ⟨wr.heap.size, 0, none⟩) 1 1] 30))
      fun e w' => e = .returned (.int .i64 (gcnt box R [⟨id, ver, [x]⟩])) ∧ Kp (fun b => b = mb) wr w' ∧ GRep (fun b => b = mb) w' p mb box (gadd box R [⟨id, ver, [x]⟩]) := by
  have hw : WfL [⟨id, ver, [x]⟩] := wf_one ⟨h1, h2, fun i hi => by
    obtain rfl : i = 0 := by simpa using hi
    exact h3, by simp⟩
  refine (add_any (fun b => b = mb) p mb box R [⟨id, ver, [x]⟩] _ _ (hG.nw ((Gr.alloc wr _).trans (Gr.alloc _ _)).nw) rfl (fun b hb h => by simp at hb; omega) (recs_one _ (wr.heap.size + 1) (by simp) ⟨id, ver, [x]⟩ _ _ (by simp; omega) (nums_one wr _ rfl .u32 x _ (by omega))) hw wb hb (by simpa using hR)).mono ?_
  rintro e w' ⟨h1, h2, h3⟩
  exact ⟨h1, (((Gr.alloc wr _).trans (Gr.alloc _ _)).kp _).trans h2, h3⟩
theorem NewInv.length {id v bst : Int} {R : List Rec} (h : NewInv id v R bst) : R.length ≤ 1 := by
  rcases h with ⟨rfl, _⟩ | ⟨rfl, _⟩ <;> simp
theorem NewInv.box {id v bst : Int} {R : List Rec} (h : NewInv id v R bst) (hv : W32 v) (ver : Int) : gcnt (vBox v) R [⟨id, ver, [(v + 1) % 4294967296]⟩] = 0 ∧ gadd (vBox v) R [⟨id, ver, [(v + 1) % 4294967296]⟩] = R := one_out R (vBox_next v hv)

set_option maxHeartbeats 2000000 in
theorem gatherNewest_any (X : Nat → Prop) (id v : Int) (vv : Value) (vs : List Int) (w : World) (hvs : Nums X .u64 w vv vs) (wid : W64 id) (wv : W32 v) (wvs : WfU vs) (hvl : vs.length ≤ 9223372036854775807) :
    Calls Try.prog 4 #[.int .u64 id, vv, .int .u32 v] w fun e w' => e = .returned (.bool true) ∧ Nw w w' := by
  obtain ⟨a, cap, rfl, hcl, hcc⟩ := hvs
  have HC := hid hcc
  clear hcc
  go_enter Try.func4, Try.ntmps4
  go_wp2_with fail
  refine (new_any (fun _ => False) _ (vBox v) _ (rngs_one w _ rfl 2 v v _ (fun h => h)) (by simp [vBox])).mono ?_
  rintro e W ⟨p, mb, rfl, hnw, h1, h2, h3, h4, h5, hG⟩
  have g0 : Nw w W := (Gr.alloc _ _).nw.trans hnw
  have HG0 := hid g0
  have HG1 : Hid (GRep (fun b => b = mb) W p mb (vBox v) []) := hid (GRep.new hG (fun b hb => Or.inl hb))
  have hmb : w.heap.size ≤ mb := by simp at h2; omega
  clear hnw hG g0 h1 h2
  go_wp2_with (go_at_call 13; refine (awake_any _).mono ?_; rintro e W1 ⟨rfl, hnw⟩; have HNW := hid hnw; clear hnw)
  go_loopw [8, 9] (fun bst i wr => ∃ k : Nat, ∃ z : Int, ∃ R : List Rec, k ≤ vs.length ∧ k ≤ 30 ∧ bst = .int .u64 z ∧ i = .int .i64 k ∧ Hid (NewInv id v R z) ∧ Hid (Nw w wr ∧ mb < wr.heap.size ∧ GRep (fun b => b = mb) wr p mb (vBox v) R)) (fun _ i _ => vs.length - (intOf i).toNat)
  case atStart => exact ⟨0, 0, [], by omega, by omega, rfl, by simp, hid (Or.inl ⟨rfl, rfl⟩), hid ⟨HG0.out.trans HNW.out, Nat.lt_of_lt_of_le h4 HNW.out.size, HG1.out.nw HNW.out⟩⟩
  case round =>
    obtain ⟨k, z, R, hk, hk30, rfl, rfl, HI, HR⟩ := hrel
    by_cases hlt : k < vs.length
    · by_cases h30 : k < 30
      · obtain ⟨b, o, rfl, hx, hcc⟩ := HC.out (by omega)
        have c0 := hcc k hlt
        obtain ⟨w0, w1⟩ := wvs k hlt
        have c1 := HR.out.1.cell c0 (fun h => h)
        generalize gx vs k = y at *
        have hy0 : 0 ≤ y % 50 := by omega
        have hy1 : y % 50 < 50 := by omega
        have hv0 : W64 (1 + y % 50 + 100) := ⟨by omega, by omega⟩
        have hv1 : W64 (1 + y % 50) := ⟨by omega, by omega⟩
        have hv2 : W32 ((v + 1) % 4294967296) := ⟨by omega, by omega⟩
        obtain ⟨hA1, hA2⟩ := HI.out.add wv (ver := 1 + y % 50) (by omega) (by omega)
        have HA1 := hid hA1
        have HA2 := hid hA2
        have HL := HI.out.length
        have hzz : 1 ≤ z ∨ z = 0 := by rcases HI.out with ⟨_, h⟩ | ⟨_, h, _⟩ <;> omega
        have hz50 : z ≤ 50 := by rcases HI.out with ⟨_, h⟩ | ⟨_, _, h⟩ <;> omega
        clear HC hcc c0 hA1 hA2
        by_cases hbv : z < 1 + y % 50
        · go_wp2_with fail
          refine (add_lit p mb (vBox v) R id (1 + y % 50 + 100) ((v + 1) % 4294967296) wr HR.out.2.2 HR.out.2.1 wid hv0 hv2 (wf_vBox wv) (by simp [vBox]) (by omega)).mono ?_
          rintro e W2 ⟨rfl, hk2, hG2⟩
          rw [(HI.out.box wv _).1]
          rw [(HI.out.box wv _).2] at hG2
          have HW2 : Hid (Nw w W2 ∧ mb < W2.heap.size ∧ GRep (fun b => b = mb) W2 p mb (vBox v) R) := hid ⟨Nw.kpX HR.out.1 hk2 (fun i e => by rw [e]; exact hmb), Nat.lt_of_lt_of_le HR.out.2.1 hk2.size, hG2⟩
          clear hk2 hG2
          go_wp2_with fail
          refine (add_lit p mb (vBox v) R id (1 + y % 50) v W2 HW2.out.2.2 HW2.out.2.1 wid hv1 wv (wf_vBox wv) (by simp [vBox]) (by omega)).mono ?_
          rintro e W3 ⟨rfl, hk3, hG3⟩
          rw [(HA1.out hbv).1]
          rw [(HA1.out hbv).2] at hG3
          have HW3 : Hid (Nw w W3 ∧ mb < W3.heap.size ∧ GRep (fun b => b = mb) W3 p mb (vBox v) [⟨id, 1 + y % 50, [v]⟩]) := hid ⟨Nw.kpX HW2.out.1 hk3 (fun i e => by rw [e]; exact hmb), Nat.lt_of_lt_of_le HW2.out.2.1 hk3.size, hG3⟩
          clear hk3 hG3
          go_wp2_with fail
          refine (all_any _ _ _ _ [⟨id, 1 + y % 50, [v]⟩] _ HW3.out.2.2 (by simp [Srt]) (wf_one ⟨wid, hv1, fun i hi => by
            obtain rfl : i = 0 := by simpa using hi
            exact wv, by simp⟩) (by simp)).mono ?_
          rintro e W4 ⟨v4, rfl, hnw4, hB⟩
          obtain ⟨a4, cap4, rfl, hl4, hc4⟩ := hB.recs (Y := fun _ => False) (fun _ _ h => h)
          obtain ⟨b4, o4, rfl, _, hcc4⟩ := hc4 (by simp)
          obtain ⟨s4, _, c41, _⟩ := hcc4 0 (by simp)
          have c41' : W4.cell? ⟨b4, o4 + 1, none⟩ = some (.int .u64 (1 + y % 50)) := by simpa [rx] using c41
          have HW4 : Hid (Nw w W4 ∧ mb < W4.heap.size ∧ GRep (fun b => b = mb) W4 p mb (vBox v) [⟨id, 1 + y % 50, [v]⟩]) := hid ⟨HW3.out.1.trans hnw4, Nat.lt_of_lt_of_le HW3.out.2.1 hnw4.size, HW3.out.2.2.nw hnw4⟩
          clear hnw4 hB hc4 hcc4 c41
          go_wp2
          go_roundw
          case rel => exact ⟨k + 1, 1 + y % 50, _, by omega, by omega, rfl, by go_num, hid (Or.inr ⟨rfl, by omega, by omega⟩), HW4⟩
          case measure => simp [intOf]; omega
        · have hvz : W64 z := ⟨by omega, by omega⟩
          go_wp2_with fail
          refine (add_lit p mb (vBox v) R id (1 + y % 50 + 100) ((v + 1) % 4294967296) wr HR.out.2.2 HR.out.2.1 wid hv0 hv2 (wf_vBox wv) (by simp [vBox]) (by omega)).mono ?_
          rintro e W2 ⟨rfl, hk2, hG2⟩
          rw [(HI.out.box wv _).1]
          rw [(HI.out.box wv _).2] at hG2
          have HW2 : Hid (Nw w W2 ∧ mb < W2.heap.size ∧ GRep (fun b => b = mb) W2 p mb (vBox v) R) := hid ⟨Nw.kpX HR.out.1 hk2 (fun i e => by rw [e]; exact hmb), Nat.lt_of_lt_of_le HR.out.2.1 hk2.size, hG2⟩
          clear hk2 hG2
          go_wp2_with fail
          refine (add_lit p mb (vBox v) R id (1 + y % 50) v W2 HW2.out.2.2 HW2.out.2.1 wid hv1 wv (wf_vBox wv) (by simp [vBox]) (by omega)).mono ?_
          rintro e W3 ⟨rfl, hk3, hG3⟩
          rw [(HA2.out hbv).1]
          rw [(HA2.out hbv).2] at hG3
          have HW3 : Hid (Nw w W3 ∧ mb < W3.heap.size ∧ GRep (fun b => b = mb) W3 p mb (vBox v) [⟨id, z, [v]⟩]) := hid ⟨Nw.kpX HW2.out.1 hk3 (fun i e => by rw [e]; exact hmb), Nat.lt_of_lt_of_le HW2.out.2.1 hk3.size, hG3⟩
          clear hk3 hG3
          go_wp2_with fail
          refine (all_any _ _ _ _ [⟨id, z, [v]⟩] _ HW3.out.2.2 (by simp [Srt]) (wf_one ⟨wid, hvz, fun i hi => by
            obtain rfl : i = 0 := by simpa using hi
            exact wv, by simp⟩) (by simp)).mono ?_
          rintro e W4 ⟨v4, rfl, hnw4, hB⟩
          obtain ⟨a4, cap4, rfl, hl4, hc4⟩ := hB.recs (Y := fun _ => False) (fun _ _ h => h)
          obtain ⟨b4, o4, rfl, _, hcc4⟩ := hc4 (by simp)
          obtain ⟨s4, _, c41, _⟩ := hcc4 0 (by simp)
          have c41' : W4.cell? ⟨b4, o4 + 1, none⟩ = some (.int .u64 (z)) := by simpa [rx] using c41
          have HW4 : Hid (Nw w W4 ∧ mb < W4.heap.size ∧ GRep (fun b => b = mb) W4 p mb (vBox v) [⟨id, z, [v]⟩]) := hid ⟨HW3.out.1.trans hnw4, Nat.lt_of_lt_of_le HW3.out.2.1 hnw4.size, HW3.out.2.2.nw hnw4⟩
          clear hnw4 hB hc4 hcc4 c41
          go_wp2
          go_roundw
          case rel => exact ⟨k + 1, z, _, by omega, by omega, rfl, by go_num, hid (Or.inr ⟨rfl, by omega, by omega⟩), HW4⟩
          case measure => simp [intOf]; omega
      · have HQ := hid HR.out.1
        clear HR
        go_wp2
        go_ret
        exact ⟨rfl, HQ.out⟩
    · have HQ := hid HR.out.1
      clear HR
      go_wp2
      go_ret
      exact ⟨rfl, HQ.out⟩

end Go.Proofs.Ytkehhopdppampaa
