/-
  Plays: petasoslaw18.GatherPlays, walked: it answers true and turns nothing that was there.
-/
import Derived.Test.YtkehhopdppampaaPlaysL
import Derived.Test.YtkehhopdppampaaNewest
import Derived.OwnWalk
import Derived.Laws.OwnMore
namespace Go.Proofs.Ytkehhopdppampaa
set_option linter.unusedVariables false
set_option linter.unusedSimpArgs false
open Go.RowKit Go.Sort Go.Maps

theorem zerosU {w : World} {base : Nat} {v : Value} {n : Nat} (h : w.ownsRow base 39 1 v n (madeCells #[.int .u32 0] n).toList) {Y : Nat → Prop} (hY : ∀ b, base ≤ b → ¬ Y b) : Nums Y .u32 w v (List.replicate n 0) := by
  have e : ∀ i, (madeCells #[Value.int .u32 0] n).toList = rowsFrom (numC .u32) i (List.replicate n 0) := by
    clear h
    intro i
    rw [toList_madeCells_one]
    induction n generalizing i with
    | zero => rfl
    | succ n ih => rw [List.replicate_succ, List.replicate_succ, rowsFrom, ← ih]; rfl
  rw [e 0] at h
  have h2 := own_nums (l := List.replicate n 0) (by simpa using h) hY
  exact h2

theorem wf_forked (n : Nat) (h : n ≤ 1000) : WfL [⟨1, 1152921504606846976, List.replicate n 0⟩] := wf_one ⟨⟨by show (0 : Int) ≤ 1; decide, by show (1 : Int) < 18446744073709551616; decide⟩, ⟨by show (0 : Int) ≤ 1152921504606846976; decide, by show (1152921504606846976 : Int) < 18446744073709551616; decide⟩, fun j hj => by
  rw [gx_get hj]
  simp
  exact ⟨by decide, by decide⟩, by simp; omega⟩

theorem page_vals {R : List Rec} {after n : Int} {first : Bool} (h : WfL R) (hl : R.length ≤ 800) : ((behind after first R).take (pageN n (behind after first R).length)).length ≤ 1000000000000000 ∧ ∀ j, j < ((behind after first R).take (pageN n (behind after first R).length)).length → (rx ((behind after first R).take (pageN n (behind after first R).length)) j).vals.length ≤ 1000000000000000 := by
  have hsub : ∀ r ∈ (behind after first R).take (pageN n (behind after first R).length), r ∈ R := fun r hr => by
    have := List.mem_of_mem_take hr
    unfold behind at this
    split at this
    · exact this
    · exact (List.dropWhile_sublist _).subset this
  have hln : (behind after first R).length ≤ R.length := by
    unfold behind
    split
    · omega
    · exact (List.dropWhile_sublist _).length_le
  refine ⟨by rw [List.length_take]; omega, fun j hj => ?_⟩
  have hm := hsub _ (List.getElem_mem hj)
  rw [rx_get hj]
  have := ((wfL_iff R).1 h _ hm).2.2.2
  omega

set_option maxRecDepth 100000 in
set_option maxHeartbeats 4000000 in
theorem gatherPlays_any (vb vl : Value) (box : List Rng) (ls : List (List Rec)) (after n fork : Int) (first : Bool) (w : World) (hb : Rngs (Old w) w vb box) (hl : Recss (Old w) w vl ls) (hbl : box.length ≤ 9223372036854775807) (hll : ls.length ≤ 9223372036854775807) (wb : WfB box)
    (wl : ∀ j, j < ls.length → (ls.getD j []).length ≤ 9223372036854775807 ∧ ∀ i, i < (ls.getD j []).length → WfIn (rx (ls.getD j []) i)) :
    Calls Try.prog 6 #[vb, vl, .int .u64 after, .bool first, .int .i64 n, .int .i64 fork] w fun e w' => e = .returned (.bool true) ∧ Nw w w' := by
  have hm := mixed
  obtain ⟨iu, hiu, hzu, hzu1, hzu2⟩ := info_parts infoU32
  have HB0 := hid hb
  obtain ⟨ba, bc, rfl, hbc, _⟩ := hb
  by_cases hb20 : box.length ≤ 20
  · obtain ⟨la, lc, rfl, hlc, hlcell⟩ := hl
    have HC := hid hlcell
    have HW := hid wl
    clear hlcell wl
    go_enter Try.func6, Try.ntmps6
    go_wp2_with fail
    refine (new_any (Old w) _ box _ HB0.out (by omega)).mono ?_
    rintro e W2 ⟨p, mb, rfl, hnw, h1, h2, h3, h4, h5, hG⟩
    have HNW := hid hnw
    have HG0 := hid hG
    clear hnw hG
    go_wp2_with fail
    generalize hW : W2.alloc (Obj.cells #[Value.slice ba box.length bc, Value.slice none 0 0] 49) = W3
    have hq3 : W3.heap[W2.heap.size]? = some (.cells #[Value.slice ba box.length bc, Value.slice none 0 0] 49 (0, 0)) := by rw [← hW]; exact heap_alloc_new _ _
    have hz3 : W3.heap.size = W2.heap.size + 1 := by rw [← hW]; simp
    have g23 : Nw W2 W3 := by rw [← hW]; exact (Gr.alloc _ _).nw
    have hwz := HNW.out.size
    have hP0 : PP w W3 p mb W2.heap.size box [] [] := ⟨HNW.out.trans g23, (GRep.new HG0.out (X := fun b => b = mb ∨ b = W2.heap.size) (fun b hb => hb.imp id (fun h => Or.inr (by omega)))).nw g23, ⟨_, _, hq3, (HB0.out.kp (Nw.to (HNW.out.trans g23))).mono (fun b _ h => by unfold Old; omega), ⟨none, 0, rfl, by simp, fun h => absurd h (by simp)⟩⟩, by omega, by omega, by omega, by omega, by omega, by omega, by omega⟩
    have hP1 : PP w W3 p mb W2.heap.size box (gadds box ls 0) (gadds box ls 0) := hP0
    have HP0 := hid hP1
    clear hW hq3 g23 hP0 hP1 hz3 HG0 HNW h3 h4
    generalize W2.heap.size = q at *
    refine (awake_any _).mono ?_
    rintro e W4 ⟨rfl, hnw4⟩
    have HP1 := hid (HP0.out.nws hnw4)
    clear hnw4 HP0
    go_wp2_with fail
    go_loopw [13, 15] (fun gv i wr => ∃ k p mb : Nat, k ≤ ls.length ∧ k ≤ 20 ∧ i = .int .i64 k ∧ gv = .pointer (some ⟨p, 0, none⟩) ∧ Hid ((gadds box ls k).length ≤ 40 * k ∧ WfL (gadds box ls k)) ∧ Hid (PP w wr p mb q box (gadds box ls k) (gadds box ls k))) (fun _ i _ => 20 - (intOf i).toNat)
    case atStart => exact ⟨0, p, mb, by omega, by omega, by simp, rfl, hid ⟨by simp [gadds], fun j hj => absurd hj (by simp [gadds])⟩, HP1⟩
    case round =>
      clear HP1 h1 h2 h5
      obtain ⟨k, p, mb, hk, hk20, rfl, rfl, HD, HP⟩ := hrel
      have hsrt := srt_gadds box ls k hk
      have hsucc := fun h => gadds_succ box ls k h
      have HSRT := hid hsrt
      have HSUCC := hid hsucc
      clear hsrt hsucc
      by_cases hlt : k < ls.length ∧ k < 20
      · obtain ⟨hlt, hlt20⟩ := hlt
        obtain ⟨b, o, rfl, hx, hcell⟩ := HC.out (by omega)
        obtain ⟨u, c0, hu⟩ := hcell k hlt
        obtain ⟨hul, hwf⟩ := HW.out k hlt
        have hU := HP.out.recs hu
        have c1 := HP.out.nw.cell c0 (fun h => h)
        have HSU := hid (HSUCC.out hlt)
        generalize ls.getD k [] = l at *
        generalize gadds box ls k = R at *
        have HU := hid hU
        have hfew := few_any _ u l wr hU hul
        obtain ⟨ua, uc, rfl, _, _⟩ := hu
        have HWF := hid hwf
        clear hcell c0 hwf hU
        cases hf : fewB l with
        | false =>
          rw [hf] at hfew
          clear hf
          go_wp2_with (go_at_call 12; refine hfew.mono ?_; rintro e w' ⟨rfl, hw'⟩; subst w')
          go_ret
          exact ⟨rfl, HP.out.nw⟩
        | true =>
          rw [hf] at hfew
          obtain ⟨hl40, hv20⟩ := (few_iff l).1 hf
          have hwl : WfL l := fun j hj => ⟨(HWF.out j hj).1, (HWF.out j hj).2.1, (HWF.out j hj).2.2, by have := hv20 j hj; omega⟩
          have HWL := hid hwl
          clear hf hv20 hwl HWF
          go_wp2_with (go_at_call 12; refine hfew.mono ?_; rintro e w' ⟨rfl, hw'⟩; subst w')
          have HPD := hid (HP.out.nws (Gr.drew wr).nw)
          have HUD := hid (HU.out.kp ((Gr.drew wr).kp _))
          have cD := (Gr.drew wr).cell c1
          have hRl : R.length ≤ 800 := by have := HD.out.1; omega
          have hcl := gcnt_le box l R
          have hbw : ∀ W' W'', Kp (fun b => b = mb ∨ b = q) W' W'' → W'.cell? ⟨b, o + k, none⟩ = some (.slice ua l.length uc) → W''.cell? ⟨b, o + k, none⟩ = some (.slice ua l.length uc) := fun W' W'' hk h => hk.cell h (fun e => by have h1 := HP.out.mb0; have h2 := HP.out.q0; unfold Old at hx; have h3 : b = mb ∨ b = q := e; omega)
          have HBW := hid hbw
          have HBR := hid hRl
          clear hfew hbw hx
          go_region_held3 (fun w' => w'.cell? ⟨b, o + k, none⟩ = some (.slice ua l.length uc))
            (first
              | go_keep
              | exact cA
              | exact cB)
            (first
              | (go_at_call 15; refine (PP.add (by first | exact HPD.out | exact HQb.out) (by first | exact HUD.out | exact HUb.out) HWL.out wb (by omega) (by omega)).mono ?_; rintro e W5 ⟨rfl, hp5, hk5⟩; have HQa := hid hp5; have cA := (HBW.out _ _ hk5 (by first | exact cD | exact cB)); have HUa : Hid (Recs (fun b => b = mb ∨ b = q) W5 (.slice ua l.length uc) l) := (by first | exact hid (HUD.out.kp hk5) | exact hid (HUb.out.kp hk5)); clear hp5 hk5)
              | (go_at_call 19; refine (PP.radd (by first | exact HPD.out | exact HQa.out) (by first | exact HUD.out | exact HUa.out) HWL.out wb HSRT.out (by omega) (by omega)).mono ?_; rintro e W5 ⟨rfl, hp5, hk5⟩; have HQb := hid hp5; have cB := (HBW.out _ _ hk5 (by first | exact cD | exact cA)); have HUb : Hid (Recs (fun b => b = mb ∨ b = q) W5 (.slice ua l.length uc) l) := (by first | exact hid (HUD.out.kp hk5) | exact hid (HUa.out.kp hk5)); clear hp5 hk5))
          all_goals
            have HQ : Hid (PP w W5 p mb q box (gadd box R l) (gadd box R l)) := by first | exact HQb | exact HQa
            rw [← HSU.out] at HQ
            have hR1 : (gadds box ls (k + 1)).length ≤ 40 * (k + 1) := by rw [HSU.out]; have := gadd_length box l R; have := HD.out.1; omega
            have hR2 : WfL (gadds box ls (k + 1)) := by rw [HSU.out]; exact wfL_gadd HD.out.2 HWL.out
            have HD1 := hid (And.intro hR1 hR2)
            generalize hgR : gadds box ls (k + 1) = R1 at *
            have HGR := hid hgR
            clear hgR hR1 hR2 HBW HU HPD HUD cD c1 HWL HP HSU
            (try clear cA HQa HUa)
            (try clear cB HQb HUb)
            (try clear cA HQa HUa)
            by_cases hkf : (k : Int) = fork
            · have hd : ((k : Int) == fork) = true := by simpa using hkf
              clear hkf
              go_wp2_with fail
              refine HQ.out.fork.mono ?_
              rintro e W6 ⟨p2, mb2, rfl, hP6, hK6⟩
              have HP6 := hid hP6
              have HK6 := hid hK6
              clear hP6 hK6 HQ
              go_wp2_with (refine wpList_make_full _ rfl (.tmp 72) (.tmp 72) 28 rfl W6.heap.size 39 iu (.int .u32 0) 1 Try.underlying28 hiu hzu hzu1 .i64 .i64 box.length box.length box.length rfl rfl rfl rfl ?mk1 ?mk2 ?mk3 ?_)
              case mk1 => rw [hzu2]; omega
              case mk2 => unfold maxLen; omega
              case mk3 => exact Nat.le_refl _
              intro W7 hown7 hg7
              have hn7 : Nw W6 W7 := Nw.grown (Nw.refl _) hg7 (fun k e => by cases e)
              have hzs := zerosU (Y := fun b => b = mb ∨ b = q) hown7 (fun b hb (e : b = mb ∨ b = q) => by have h1 := HP6.out.mb1; have h2 := HP6.out.q1; omega)
              have HN7 := hid hn7
              have HZ7 := hid hzs
              have hs7 := hn7.size
              clear hown7 hg7 hn7 hzs
              go_wp2_with fail
              have hP7 := HP6.out.nws (HN7.out.trans (Gr.alloc W7 (Obj.cells #[Value.int IntKind.u64 1, Value.int IntKind.u64 1152921504606846976, Value.slice (some ⟨W6.heap.size, 0, none⟩) box.length box.length] 30)).nw)
              have hF7 : Fresh (W7.alloc (Obj.cells #[Value.int IntKind.u64 1, Value.int IntKind.u64 1152921504606846976, Value.slice (some ⟨W6.heap.size, 0, none⟩) box.length box.length] 30)).heap.size (fun b => b = mb ∨ b = q) := fun b hb (e : b = mb ∨ b = q) => by have h1 := hP7.mb1; have h2 := hP7.q1; omega
              refine (add_any (fun b => b = mb ∨ b = q) p mb box R1 [⟨1, 1152921504606846976, List.replicate box.length 0⟩] _ _ hP7.g (Or.inl rfl) hF7 (recs_one W7 _ rfl ⟨1, 1152921504606846976, List.replicate box.length 0⟩ _ _ (fun e => by have e' : W7.heap.size = mb ∨ W7.heap.size = q := e; have h1 := HP6.out.mb1; have h2 := HP6.out.q1; omega) HZ7.out) (wf_forked box.length (by omega)) wb (by omega) (by have := HD1.out.1; simp; omega)).mono ?_
              rintro e W8 ⟨rfl, hk8, _⟩
              have HP8 := hid (HK6.out _ _ (HN7.out.trans (Gr.alloc W7 _).nw) hk8)
              clear hP7 hF7 hk8 HK6 HN7 HZ7 HP6
              go_wp2
              go_roundw
              case rel => exact ⟨k + 1, p2, mb2, by omega, by omega, by go_num, rfl, by rw [HGR.out]; exact HD1, by rw [HGR.out]; exact HP8⟩
              case measure => simp [intOf]; omega
            · have hd : ((k : Int) == fork) = false := by simpa using hkf
              clear hkf
              go_wp2
              go_roundw
              case rel => exact ⟨k + 1, p, mb, by omega, by omega, by go_num, rfl, by rw [HGR.out]; exact HD1, by rw [HGR.out]; exact HQ⟩
              case measure => simp [intOf]; omega
      · have hex : ¬ k < ls.length ∨ (k < ls.length ∧ ¬ k < 20) := by omega
        clear HC HW HSUCC hlt
        have hRl : (gadds box ls k).length ≤ 800 := by have := HD.out.1; omega
        have HWR := hid HD.out.2
        generalize gadds box ls k = R at *
        clear HD
        have HPL := hid (page_vals (R := R) (after := after) (n := n) (first := first) HWR.out (by omega))
        have hpg := page_any _ p mb box R after n first wr HP.out.g HSRT.out HWR.out (by omega)
        have hrg := fun W5 (h : PP w W5 p mb q box R R) => refPage_any _ q box R after n first W5 h.r HSRT.out HWR.out (by omega)
        generalize hPP : (behind after first R).take (pageN n (behind after first R).length) = P at *
        generalize moreB n (behind after first R).length = mo at *
        clear hPP
        rcases hex with hx1 | ⟨hx1, hx2⟩
        all_goals
          go_wp2_with fail
          refine hpg.mono ?_
          rintro e W5 ⟨v1, rfl, hn5, hf5⟩
          have HP5 := hid (HP.out.nws hn5)
          have hv1 := hf5 (fun _ => False) (fun _ _ h => h)
          clear hf5 hn5
          go_wp2_with fail
          refine (hrg W5 HP5.out).mono ?_
          rintro e W6 ⟨v2, rfl, hn6, hf6⟩
          have HP6 := hid (HP5.out.nws hn6)
          have hv2 := hf6 (fun _ => False) (fun _ _ h => h)
          have HV1 := hid (hv1.kp (Nw.to hn6))
          have HV2 := hid hv2
          obtain ⟨a1, c1, hv1', _, _⟩ := hv1
          obtain ⟨a2, c2, hv2', _, _⟩ := hv2
          subst hv1'
          subst hv2'
          clear hf6 hn6 HP HP5
          go_wp2_with fail
          obtain ⟨rvb, rvl, hqb, _, hrl⟩ := HP6.out.r
          have q1 : W6.cell? ⟨q, 1, none⟩ = some rvl := by simp [World.cell?, hqb]
          have HRL := hid hrl
          obtain ⟨ra, rc, hrl', _, _⟩ := hrl
          subst hrl'
          have qD := (Gr.drew W6).cell q1
          have hvl : ∀ j, j < R.length → (rx R j).vals.length ≤ 1000000000000000 := fun j hj => by have := (HWR.out j hj).2.2.2; omega
          have HVL := hid hvl
          clear hqb hvl
          go_region_held3 (fun w' => w'.cell? ⟨q, 1, none⟩ = some (.slice ra R.length rc))
            (first
              | go_keep
              | exact cA
              | exact cB
              | exact cC)
            (first
              | (go_at_call 17; refine (all_any _ p mb box R _ (HP6.out.nws (Gr.drew W6).nw).g HSRT.out HWR.out (by omega)).mono ?_; rintro e W7 ⟨v3, rfl, hn7, hB7⟩; have HN7 := hid ((Gr.drew W6).nw.trans hn7); have hv3 := hB7.recs (Y := fun _ => False) (fun _ _ h => h); have HV3 := hid hv3; have cA := HN7.out.cell q1 (fun h => h); obtain ⟨a3, c3, hv3', _, _⟩ := hv3; subst hv3'; clear hn7 hB7)
              | (go_at_call_of 16 (Value.slice a3 R.length c3); refine (records_true _ _ _ _ R _ HV3.out (HRL.out.kp (Nw.to HN7.out)) (by omega) HVL.out).mono ?_; rintro e W8 ⟨rfl, hg8⟩; have HG8 := hid hg8; have cB := hg8.cell cA; clear hg8)
              | (go_at_call_of 16 (Value.slice a1 P.length c1); refine (records_true _ _ _ _ P _ (HV1.out.kp (Nw.to (HN7.out.trans HG8.out.nw))) (HV2.out.kp (Nw.to (HN7.out.trans HG8.out.nw))) HPL.out.1 HPL.out.2).mono ?_; rintro e W9 ⟨rfl, hg9⟩; have HG9 := hid hg9; have cC := hg9.cell cB; clear hg9))
          go_wp2
          go_ret
          exact ⟨rfl, (((HP6.out.nw.trans HN7.out).trans HG8.out.nw).trans HG9.out.nw)⟩
  · clear hl wl
    go_enter Try.func6, Try.ntmps6
    go_wp2_with (first
      | (go_at_call 13; refine (awake_any _).mono ?_; rintro e W ⟨rfl, hnw⟩; have HNW := hid hnw; clear hnw))
    go_ret
    exact ⟨rfl, HNW.out⟩

end Go.Proofs.Ytkehhopdppampaa
