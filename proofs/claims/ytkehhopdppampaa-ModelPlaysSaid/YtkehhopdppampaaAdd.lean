/-
  Add: gather.Add: each record that the box has and that is new or newer is put; how many.
-/
import Derived.Test.YtkehhopdppampaaGath
import Derived.StillTailTactics
import Derived.Deep.RegionHeld3
set_option linter.unusedVariables false
set_option linter.unusedSimpArgs false
namespace Go.Proofs.Ytkehhopdppampaa
open Go.RowKit Go.Sort Go.Maps

theorem GRep.put {X : Nat → Prop} {w w' : World} {p mb : Nat} {box : List Rng} {R : List Rec} {vb v : Value} {L : List (Int × Value)} {r : Rec}
    (hb : w.heap[p]? = some (.cells #[vb, .map (some mb)] 77 (0, 0))) (hr : Rngs X w vb box) (ht : Tied X w L R) (hk : Kp (fun k => k = mb) w w') (hX : X mb) (hne : p ≠ mb)
    (hL : MapIs w' mb (mput r.id v L)) (hv : RecV X w' v r) : GRep X w' p mb box (rput r R) :=
  have hk' : Kp X w w' := hk.mono (fun k _ e => by rw [e]; exact hX)
  ⟨vb, _, hk.heap hb hne, hr.kp hk', hL, (ht.kp hk').put hv⟩

theorem GRep.ne {X : Nat → Prop} {w : World} {p mb : Nat} {box : List Rng} {R : List Rec} (h : GRep X w p mb box R) : p ≠ mb := by
  obtain ⟨vb, L, hb, hr, ⟨es, clock, hb', _⟩, ht⟩ := h
  rintro rfl
  rw [hb] at hb'
  cases hb'

theorem zeroRec (w : World) : (zeroValue 30).run Try.prog w = .ok (.agg #[.int .u64 0, .int .u64 0, .slice none 0 0]) w := by
  obtain ⟨i0, hi, hz0, _, _⟩ := info_parts infoRec
  simp [zeroValue, typeInfo, hi, hz0]

/-- What a look-up of r's id finds. -/
theorem Tied.look {X : Nat → Prop} {w : World} {L : List (Int × Value)} {R : List Rec} (h : Tied X w L R) (r : Rec) :
    ∃ oi ov oa on oc is, (mfind r.id L).getD (.agg #[.int .u64 0, .int .u64 0, .slice none 0 0]) = .agg #[.int .u64 oi, .int .u64 ov, .slice oa on oc] ∧ (mfind r.id L).isSome = is ∧ newer R r = (!is || decide (ov < r.ver)) := by
  cases e : rfind r.id R with
  | none =>
    rw [h.find_none e]
    exact ⟨0, 0, none, 0, 0, false, rfl, rfl, by simp [newer, e]⟩
  | some q =>
    obtain ⟨v, hv, s, rfl, a, cap, rfl, _⟩ := h.find_some e
    rw [hv]
    exact ⟨q.id, q.ver, a, _, cap, true, rfl, rfl, by simp [newer, e]⟩

theorem map_nonnil (bm : Nat) : ∀ w, (binOp .eql 75 (.map (some bm)) (.map none)).run Try.prog w = .ok (.bool false) w := fun w => by kernel_rfl
theorem map_isnil : ∀ w, (binOp .eql 75 (.map none) (.map none)).run Try.prog w = .ok (.bool true) w := fun w => by kernel_rfl

/-- What record.Copy leaves. -/
def Copied (r : Rec) (w : World) (e : Ending) (w' : World) : Prop := ∃ v', e = .returned v' ∧ Nw w w' ∧ ∀ Y, Fresh w.heap.size Y → RecV Y w' v' r

set_option maxHeartbeats 4000000 in
set_option maxRecDepth 100000 in
theorem add_any (X : Nat → Prop) (p mb : Nat) (box : List Rng) (R l : List Rec) (v : Value) (w : World) (hG : GRep X w p mb box R) (hX : X mb) (hF : Fresh w.heap.size X) (hl : Recs X w v l)
    (wl : WfL l) (wb : WfB box) (hbl : box.length ≤ 1000000000000) (hRl : R.length + l.length ≤ 1000000000000) :
    Calls Try.prog 15 #[.pointer (some ⟨p, 0, none⟩), v] w fun e w' => e = .returned (.int .i64 (gcnt box R l)) ∧ Kp (fun k => k = mb) w w' ∧ GRep X w' p mb box (gadd box R l) := by
  have hm := mixed
  have hmm := @run_makeMap Try.prog
  have qm := map_nonnil mb
  have hne := hG.ne
  obtain ⟨a, cap, rfl, hl1, hc⟩ := hl
  have HG := hid hG
  have HC := hid hc
  clear hG hc
  go_enter Try.func15, Try.ntmps15
  go_wp2
  go_loopw [5, 14] (fun n i wr => ∃ k : Nat, k ≤ l.length ∧ n = .int .i64 (gcnt box R (l.take k)) ∧ i = .int .i64 k ∧ Hid (Kp (fun k => k = mb) w wr ∧ GRep X wr p mb box (gadd box R (l.take k)))) (fun _ i _ => l.length - (intOf i).toNat)
  case atStart => exact ⟨0, by omega, by simp [gcnt], by simp, hid ⟨Kp.refl _ _, by simpa [gadd] using HG.out⟩⟩
  case round =>
    obtain ⟨k, hk, rfl, rfl, HR⟩ := hrel
    by_cases hlt : k < l.length
    · obtain ⟨b, o, rfl, hx, hcc⟩ := HC.out (by omega)
      obtain ⟨s, c0, c1, c2, hN⟩ := hcc k hlt
      obtain ⟨hkp, vb, L, hb, hr, hL, ht⟩ := HR.out
      have hkX : Kp X w wr := hkp.mono (fun k _ e => by rw [e]; exact hX)
      have hbX : b ≠ mb := fun e => hx (by rw [e]; exact hX)
      have e0 := hkp.cell c0 hbX
      have e1 := hkp.cell c1 hbX
      have e2 := hkp.cell c2 hbX
      have hN' := hN.kp hkX
      clear hcc c0 c1 c2 hN
      obtain ⟨a', cap', rfl, hl', hNc⟩ := hN'
      have HN : Hid (Nums X .u32 wr (.slice a' (rx l k).vals.length cap') (rx l k).vals) := hid ⟨a', cap', rfl, hl', hNc⟩
      clear hNc
      have hwr := wl k hlt
      have hLl : L.length < maxLen := by
        have h1 := ht.length
        have h2 := gadd_length box (l.take k) R
        rw [List.length_take] at h2
        unfold maxLen
        omega
      generalize hrk : rx l k = r at *
      have HRK := hid hrk
      have hKS := hid (take_snocR l k hlt)
      generalize hGR : gadd box R (l.take k) = R1 at *
      have HGR := hid hGR
      generalize hGC : gcnt box R (l.take k) = n1 at *
      have HGC := hid hGC
      clear hrk hGR hGC hx HC HR
      have HREP : Hid (GRep X wr p mb box R1) := hid ⟨vb, L, hb, hr, hL, ht⟩
      have HL := hid hL
      have HT := hid ht
      have HB := hid hr
      have HKP := hid hkp
      have HKX := hid hkX
      obtain ⟨hid0, hver0, hvals0, hvl0⟩ := hwr
      clear hL ht hr hkp hkX
      obtain ⟨oi, ov, oa, on, oc, is, hg, hs, hnew⟩ := HT.out.look r
      have HNEW := hid hnew
      have p0 : wr.cell? ⟨p, 0, none⟩ = some vb := by simp [World.cell?, hb]
      have p1 : wr.cell? ⟨p, 1, none⟩ = some (.map (some mb)) := by simp [World.cell?, hb]
      have HBP := hid hb
      clear hb hnew
      go_wp2_with fail
      generalize hW : wr.alloc (Obj.cells #[.int .u64 r.id, .int .u64 r.ver, .slice a' r.vals.length cap'] 30) = W
      have g0 : Gr wr W := by rw [← hW]; exact Gr.alloc _ _
      have hz : W.heap.size = wr.heap.size + 1 := by rw [← hW]; simp
      have d0 : W.cell? ⟨wr.heap.size, 0, none⟩ = some (.int .u64 r.id) := by rw [← hW]; simp
      have d1 : W.cell? ⟨wr.heap.size, 1, none⟩ = some (.int .u64 r.ver) := by rw [← hW]; simp
      have d2 : W.cell? ⟨wr.heap.size, 2, none⟩ = some (.slice a' r.vals.length cap') := by rw [← hW]; simp
      have q0 := g0.cell p0
      have q1 := g0.cell p1
      have hlk1 := (HL.out.kp (X := fun _ => False) (g0.trans (Gr.drew _)).nw (fun h => h)).look Try.underlying75 zeroRec hid0.1 hid0.2
      have hlk2 := (HL.out.kp (X := fun _ => False) ((g0.trans (Gr.alloc _ (.cells #[.int .u64 0, .int .u64 0, .slice none 0 0] 30))).trans (Gr.drew _)).nw (fun h => h)).look Try.underlying75 zeroRec hid0.1 hid0.2
      rw [hg, hs] at hlk1 hlk2
      have HG0 := hid g0
      have q1' : (W.alloc (.cells #[.int .u64 0, .int .u64 0, .slice none 0 0] 30)).cell? ⟨p, 1, none⟩ = some (.map (some mb)) := (Gr.alloc W _).cell q1
      have d0' : (W.alloc (.cells #[.int .u64 0, .int .u64 0, .slice none 0 0] 30)).cell? ⟨wr.heap.size, 0, none⟩ = some (.int .u64 r.id) := (Gr.alloc W _).cell d0
      have hpz : p < W.heap.size := World.block_lt_of_cell? _ _ q0
      have hrz : wr.heap.size < W.heap.size := by omega
      clear hW g0 p0 p1 hg hs
      go_region
      all_goals
        generalize hV : (W.alloc (Obj.cells #[.int .u64 oi, .int .u64 ov, .slice oa on oc] 30)).drew = V
        have gV : Gr W V := by rw [← hV]; exact (Gr.alloc _ _).trans (Gr.drew _)
        have o1 : V.cell? ⟨wr.heap.size + 1, 1, none⟩ = some (.int .u64 ov) := by rw [← hV, ← hz]; simp
        have hVz : wr.heap.size + 1 < V.heap.size := by rw [← hV]; simp [hz]
        have f0 := gV.cell d0
        have f1 := gV.cell d1
        have f2 := gV.cell d2
        have v0 := gV.cell q0
        have v1 := gV.cell q1
        have h0 := cell_grown (World.block_lt_of_cell? _ _ f0) f0
        have h1 := cell_grown (World.block_lt_of_cell? _ _ f1) f1
        have h2 := cell_grown (World.block_lt_of_cell? _ _ f2) f2
        have h3 := cell_grown (World.block_lt_of_cell? _ _ v0) v0
        have h4 := cell_grown (World.block_lt_of_cell? _ _ v1) v1
        have h5 := cell_grown (World.block_lt_of_cell? _ _ o1) o1
        have G := HG0.out.trans gV
        have HGV := hid G
        have hmatch : ∀ nq os, Calls Try.prog 37 #[vb, .slice a' r.vals.length cap'] (grow (V.drewN nq) os) fun e w' => e = .returned (.bool (mB box r.vals)) ∧ Gr (grow (V.drewN nq) os) w' := fun nq os =>
          match_any X _ _ box r.vals _ (HB.out.gr (G.trans (Gr.grow _ _ _))) (HN.out.gr (G.trans (Gr.grow _ _ _))) (by omega) (by omega) wb hvals0
        have hNot : takes box R1 r = false → gcnt box R (l.take (k + 1)) = n1 ∧ gadd box R (l.take (k + 1)) = R1 := fun ht => by
          rw [hKS.out, gcnt_snoc, gadd_snoc, HGR.out, HGC.out, HRK.out, gadd1, ht]; simp
        have hYes : takes box R1 r = true → gcnt box R (l.take (k + 1)) = n1 + 1 ∧ gadd box R (l.take (k + 1)) = rput r R1 := fun ht => by
          rw [hKS.out, gcnt_snoc, gadd_snoc, HGR.out, HGC.out, HRK.out, gadd1, ht]; simp
        have HNOT := hid hNot
        have HYES := hid hYes
        have hcnt : n1 ≤ 1000000000000 := by
          have e1 := gcnt_le box (l.take k) R
          rw [List.length_take, HGC.out] at e1
          omega
        clear hNot hYes
        clear hV gV G d0 d1 d2 d0' q0 q1 q1' hlk1 hlk2
        go_wp2_with fail
        generalize htt : mB box r.vals = tt at hmatch
        have HTT := hid htt
        clear htt
        cases is <;> cases tt
        all_goals
          refine wp_region_quiet_grown (by assumption) (by kernel_rfl) ?_
          repeat (go_big_quiet_step (first | (go_at_call 37; refine Calls.gr_of (hmatch _ _))))
          refine wpQuiet_nil ?_
          intro _ hw'
          obtain ⟨⟨nq, osq⟩, hw''⟩ := hw'
          subst hw''
        all_goals
          have j0 := h0 nq osq
          have j1 := h1 nq osq
          have j2 := h2 nq osq
          have j4 := h4 nq osq
          have GV2 := hid (HGV.out.trans (Gr.grow V nq osq))
          have hzV : wr.heap.size + 1 < (grow (V.drewN nq) osq).heap.size := Nat.lt_of_lt_of_le hVz (Gr.grow V nq osq).size
          clear h0 h1 h2 h3 h4 h5 f0 f1 f2 v0 v1 o1 hmatch
          generalize grow (V.drewN nq) osq = V2 at *
        · have E := hid (HNOT.out (by simp [takes, HTT.out]))
          go_wp2
          go_roundw
          case rel => exact ⟨k + 1, by omega, by rw [E.out.1], by go_num, hid ⟨HKP.out.gr GV2.out, by rw [E.out.2]; exact HREP.out.nw GV2.out.nw⟩⟩
          case measure => simp [intOf]; omega
        · have E := hid (HYES.out (by simp [takes, HTT.out, HNEW.out]))
          have hwm : wr.heap.size ≠ mb := by have := HL.out.lt; omega
          have hcopy : ∀ W', Nw V2 W' → Calls Try.prog 38 #[.agg #[.int .u64 r.id, .int .u64 r.ver, .slice a' r.vals.length cap']] W' (Copied r W') := fun W' hW =>
            copy_any X _ r W' ⟨_, rfl, (HN.out.gr GV2.out).kp hW.to⟩ hvl0
          have hstore : ∀ W', Nw V2 W' → ∀ v, ∃ w', (Instr.mapUpdate 75 (.map (some mb)) (.int .u64 r.id) v).run Try.prog W' = .ok () w' ∧ MapIs w' mb (mput r.id v L) ∧ Kp (fun k => k = mb) W' w' := fun W' hW v =>
            (HL.out.kp (GV2.out.nw.trans hW) (fun h => h)).store Try.underlying75 hLl hid0.1 hid0.2 v
          go_wp2_with fail
          go_region_held3 (fun w' => w'.cell? ⟨p, 1, none⟩ = some (.map (some mb)) ∧ w'.cell? ⟨wr.heap.size, 0, none⟩ = some (.int .u64 r.id) ∧ w'.cell? ⟨wr.heap.size, 1, none⟩ = some (.int .u64 r.ver) ∧ w'.cell? ⟨wr.heap.size, 2, none⟩ = some (.slice a' r.vals.length cap'))
            (first
              | go_keep
              | exact ⟨KC.out _ _ j4, KC.out _ _ j0, KC.out _ _ j1, KC.out _ _ j2⟩
              | exact ⟨KD.out _ _ j4 hne, KD.out _ _ j0 hwm, KD.out _ _ j1 hwm, KD.out _ _ j2 hwm⟩)
            (first
              | (go_at_call 38; refine (hcopy _ ((Gr.drew _).nw)).mono ?_; rintro e W3 ⟨v', rfl, hnw, hrec⟩; have hnw2 := (Gr.drew V2).nw.trans hnw; have KC : Hid (∀ (a : Addr) (v : Value), V2.cell? a = some v → W3.cell? a = some v) := hid (fun a v h => hnw2.cell h (fun h => h)); obtain ⟨W4, hrun, hmp, hk4⟩ := hstore W3 hnw2 v'; have KD : Hid (∀ (a : Addr) (v : Value), V2.cell? a = some v → a.block ≠ mb → W4.cell? a = some v) := hid (fun a v h hb => hk4.cell (hnw2.cell h (fun h => h)) hb)))
          have hfr : Fresh V2.drew.heap.size X := fun b hb => hF b (by have e1 := HKP.out.size; have e2 := GV2.out.size; have e3 : V2.drew.heap.size = V2.heap.size := rfl; omega)
          have FIN : Hid (Kp (fun k => k = mb) w W4 ∧ GRep X W4 p mb box (rput r R1)) := hid ⟨(((HKP.out.gr GV2.out).trans (Nw.to hnw2)).trans hk4), GRep.put (hnw2.heap (GV2.out.heap HBP.out) (fun h => h)) ((HB.out.gr GV2.out).kp (Nw.to hnw2)) ((HT.out.kp (GV2.out.kp X)).kp (Nw.to hnw2)) hk4 hX hne hmp ((hrec X hfr).kp (hk4.mono (fun k _ e => by rw [e]; exact hX)))⟩
          clear hfr hrun hmp hk4 KC KD hnw hnw2 hrec hcopy hstore
          go_wp2
          go_roundw
          case rel => exact ⟨k + 1, by omega, by rw [E.out.1]; go_num, by go_num, hid ⟨FIN.out.1, by rw [E.out.2]; exact FIN.out.2⟩⟩
          case measure => simp [intOf]; omega
        · have E := hid (HNOT.out (by simp [takes, HTT.out]))
          go_wp2
          go_roundw
          case rel => exact ⟨k + 1, by omega, by rw [E.out.1], by go_num, hid ⟨HKP.out.gr GV2.out, by rw [E.out.2]; exact HREP.out.nw GV2.out.nw⟩⟩
          case measure => simp [intOf]; omega
        · by_cases hvv : ov < r.ver
          · have E := hid (HYES.out (by simp [takes, HTT.out, HNEW.out, hvv]))
            have hwm : wr.heap.size ≠ mb := by have := HL.out.lt; omega
            have hcopy : ∀ W', Nw V2 W' → Calls Try.prog 38 #[.agg #[.int .u64 r.id, .int .u64 r.ver, .slice a' r.vals.length cap']] W' (Copied r W') := fun W' hW =>
              copy_any X _ r W' ⟨_, rfl, (HN.out.gr GV2.out).kp hW.to⟩ hvl0
            have hstore : ∀ W', Nw V2 W' → ∀ v, ∃ w', (Instr.mapUpdate 75 (.map (some mb)) (.int .u64 r.id) v).run Try.prog W' = .ok () w' ∧ MapIs w' mb (mput r.id v L) ∧ Kp (fun k => k = mb) W' w' := fun W' hW v =>
              (HL.out.kp (GV2.out.nw.trans hW) (fun h => h)).store Try.underlying75 hLl hid0.1 hid0.2 v
            go_wp2_with fail
            go_region_held3 (fun w' => w'.cell? ⟨p, 1, none⟩ = some (.map (some mb)) ∧ w'.cell? ⟨wr.heap.size, 0, none⟩ = some (.int .u64 r.id) ∧ w'.cell? ⟨wr.heap.size, 1, none⟩ = some (.int .u64 r.ver) ∧ w'.cell? ⟨wr.heap.size, 2, none⟩ = some (.slice a' r.vals.length cap'))
              (first
                | go_keep
                | exact ⟨KC.out _ _ j4, KC.out _ _ j0, KC.out _ _ j1, KC.out _ _ j2⟩
                | exact ⟨KD.out _ _ j4 hne, KD.out _ _ j0 hwm, KD.out _ _ j1 hwm, KD.out _ _ j2 hwm⟩)
              (first
                | (go_at_call 38; refine (hcopy _ ((Gr.drew _).nw)).mono ?_; rintro e W3 ⟨v', rfl, hnw, hrec⟩; have hnw2 := (Gr.drew V2).nw.trans hnw; have KC : Hid (∀ (a : Addr) (v : Value), V2.cell? a = some v → W3.cell? a = some v) := hid (fun a v h => hnw2.cell h (fun h => h)); obtain ⟨W4, hrun, hmp, hk4⟩ := hstore W3 hnw2 v'; have KD : Hid (∀ (a : Addr) (v : Value), V2.cell? a = some v → a.block ≠ mb → W4.cell? a = some v) := hid (fun a v h hb => hk4.cell (hnw2.cell h (fun h => h)) hb)))
            have hfr : Fresh V2.drew.heap.size X := fun b hb => hF b (by have e1 := HKP.out.size; have e2 := GV2.out.size; have e3 : V2.drew.heap.size = V2.heap.size := rfl; omega)
            have FIN : Hid (Kp (fun k => k = mb) w W4 ∧ GRep X W4 p mb box (rput r R1)) := hid ⟨(((HKP.out.gr GV2.out).trans (Nw.to hnw2)).trans hk4), GRep.put (hnw2.heap (GV2.out.heap HBP.out) (fun h => h)) ((HB.out.gr GV2.out).kp (Nw.to hnw2)) ((HT.out.kp (GV2.out.kp X)).kp (Nw.to hnw2)) hk4 hX hne hmp ((hrec X hfr).kp (hk4.mono (fun k _ e => by rw [e]; exact hX)))⟩
            clear hfr hrun hmp hk4 KC KD hnw hnw2 hrec hcopy hstore
            go_wp2
            go_roundw
            case rel => exact ⟨k + 1, by omega, by rw [E.out.1]; go_num, by go_num, hid ⟨FIN.out.1, by rw [E.out.2]; exact FIN.out.2⟩⟩
            case measure => simp [intOf]; omega
          · have E := hid (HNOT.out (by simp [takes, HTT.out, HNEW.out]; omega))
            go_wp2
            go_roundw
            case rel => exact ⟨k + 1, by omega, by rw [E.out.1], by go_num, hid ⟨HKP.out.gr GV2.out, by rw [E.out.2]; exact HREP.out.nw GV2.out.nw⟩⟩
            case measure => simp [intOf]; omega
    · have e : k = l.length := by omega
      subst e
      rw [List.take_length] at HR ⊢
      go_wp2
      go_ret
      exact ⟨rfl, HR.out.1, HR.out.2⟩

end Go.Proofs.Ytkehhopdppampaa
