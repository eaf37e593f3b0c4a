/-
  RefAdd: petasosref18.Gather.Add: as the plain gathering.
-/
import Derived.Test.YtkehhopdppampaaPut
namespace Go.Proofs.Ytkehhopdppampaa
set_option linter.unusedVariables false
set_option linter.unusedSimpArgs false
open Go.RowKit Go.Sort Go.Maps

/-- At block q stands the reference's gathering. -/
def RefRep (X : Nat → Prop) (w : World) (q : Nat) (box : List Rng) (L : List Rec) : Prop :=
  ∃ vb vl, w.heap[q]? = some (.cells #[vb, vl] 49 (0, 0)) ∧ Rngs X w vb box ∧ Recs X w vl L
theorem RefRep.kp {X Z : Nat → Prop} {w w' : World} {q : Nat} {box : List Rng} {L : List Rec} (h : RefRep X w q box L) (hk : Kp Z w w') (hZ : ∀ k, k < w.heap.size → Z k → X k) (hq : ¬ Z q) : RefRep X w' q box L := by
  obtain ⟨vb, vl, hb, hr, hl⟩ := h
  exact ⟨vb, vl, hk.heap hb hq, hr.kp (hk.mono hZ), hl.kp (hk.mono hZ)⟩
theorem RefRep.nw {X : Nat → Prop} {w w' : World} {q : Nat} {box : List Rng} {L : List Rec} (h : RefRep X w q box L) (hk : Nw w w') : RefRep X w' q box L := h.kp hk (fun _ _ h => h.elim) (fun h => h)

set_option maxRecDepth 100000 in
set_option maxHeartbeats 2000000 in
theorem refAdd_any (X : Nat → Prop) (q : Nat) (box : List Rng) (L l : List Rec) (v : Value) (w : World) (hG : RefRep X w q box L) (hX : X q) (hF : Fresh w.heap.size X) (hl : Recs X w v l)
    (wl : WfL l) (wb : WfB box) (hs : Srt L) (hbl : box.length ≤ 1000000000000) (hRl : L.length + l.length ≤ 1000000000) :
    Calls Try.prog 19 #[.pointer (some ⟨q, 0, none⟩), v] w fun e w' => e = .returned (.int .i64 (gcnt box L l)) ∧ Kp (fun k => k = q) w w' ∧ RefRep X w' q box (gadd box L l) := by
  have hm := mixed
  obtain ⟨a, cap, rfl, hl1, hc⟩ := hl
  have HG := hid hG
  have HC := hid hc
  clear hG hc
  go_enter Try.func19, Try.ntmps19
  go_wp2
  go_loopw [5, 6] (fun n i wr => ∃ k : Nat, k ≤ l.length ∧ n = .int .i64 (gcnt box L (l.take k)) ∧ i = .int .i64 k ∧ Hid (Kp (fun k => k = q) w wr ∧ RefRep X wr q box (gadd box L (l.take k)))) (fun _ i _ => l.length - (intOf i).toNat)
  case atStart => exact ⟨0, by omega, by simp [gcnt], by simp, hid ⟨Kp.refl _ _, by simpa [gadd] using HG.out⟩⟩
  case round =>
    obtain ⟨k, hk, rfl, rfl, HR⟩ := hrel
    by_cases hlt : k < l.length
    · obtain ⟨b, o, rfl, hx, hcc⟩ := HC.out (by omega)
      obtain ⟨s, c0, c1, c2, hN⟩ := hcc k hlt
      obtain ⟨hkp, vb, vl, hb, hr, hL⟩ := HR.out
      have hkX : Kp X w wr := hkp.mono (fun k _ e => by rw [e]; exact hX)
      have hbX : b ≠ q := fun e => hx (by rw [e]; exact hX)
      have e0 := hkp.cell c0 hbX
      have e1 := hkp.cell c1 hbX
      have e2 := hkp.cell c2 hbX
      have hN' := hN.kp hkX
      obtain ⟨sa, sc, rfl, hsl, _⟩ := hN
      have HN := hid hN'
      have hwr := wl k hlt
      have hsz := gadd_length box (l.take k) L
      rw [List.length_take] at hsz
      have hsrt : Srt (gadd box L (l.take k)) := srt_gadd _ _ _ hs
      have hKS := hid (take_snocR l k hlt)
      generalize hrk : rx l k = r at *
      have HRK := hid hrk
      generalize hGR : gadd box L (l.take k) = R1 at *
      generalize hGC : gcnt box L (l.take k) = n1 at *
      have HGR := hid hGR
      have HGC := hid hGC
      have HNOT : Hid (takes box R1 r = false → gcnt box L (l.take (k + 1)) = n1 ∧ gadd box L (l.take (k + 1)) = R1) := hid (fun ht => by
        rw [hKS.out, gcnt_snoc, gadd_snoc, HGR.out, HGC.out, gadd1, ht]; simp)
      have HYES : Hid (takes box R1 r = true → gcnt box L (l.take (k + 1)) = n1 + 1 ∧ gadd box L (l.take (k + 1)) = rput r R1) := hid (fun ht => by
        rw [hKS.out, gcnt_snoc, gadd_snoc, HGR.out, HGC.out, gadd1, ht]; simp)
      have q0 : wr.cell? ⟨q, 0, none⟩ = some vb := by simp [World.cell?, hb]
      have q1 : wr.cell? ⟨q, 1, none⟩ = some vl := by simp [World.cell?, hb]
      have f2 := cell_grown (World.block_lt_of_cell? _ _ e2) e2
      have f3 := cell_grown (World.block_lt_of_cell? _ _ q0) q0
      have HB := hid hr
      have HL := hid hL
      have HBP := hid hb
      have HKP := hid hkp
      have HREP := hid HR.out.2
      obtain ⟨hid0, hver0, hvals0, hvl0⟩ := hwr
      have hmatch : ∀ nq os, Calls Try.prog 28 #[vb, .slice sa r.vals.length sc] (grow (wr.drewN nq) os) fun e w' => e = .returned (.bool (mB box r.vals)) ∧ Gr (grow (wr.drewN nq) os) w' := fun nq os =>
        refMatch_any X _ _ box r.vals _ (HB.out.gr (Gr.grow _ _ _)) (HN.out.gr (Gr.grow _ _ _)) (by omega) (by omega) wb hvals0
      clear hrk hGR hGC hx HC HR hcc c0 c1 c2 hN' hb hr hL hkp hkX
      generalize htt : mB box r.vals = tt at hmatch
      have HTT := hid htt
      clear htt
      go_wp2_with fail
      cases tt
      · refine wp_region_quiet_grown (by assumption) (by kernel_rfl) ?_
        repeat (go_big_quiet_step (first | (go_at_call 28; refine Calls.gr_of (hmatch _ _))))
        refine wpQuiet_nil ?_
        intro _ hw'
        obtain ⟨⟨nq, osq⟩, hw''⟩ := hw'
        subst hw''
        have E := hid (HNOT.out (by simp [takes, HTT.out]))
        clear hmatch f2 f3
        go_wp2
        go_roundw
        case rel => exact ⟨k + 1, by omega, by rw [E.out.1], by go_num, hid ⟨HKP.out.gr (Gr.grow _ _ _), by rw [E.out.2]; exact HREP.out.nw (Gr.grow _ _ _).nw⟩⟩
        case measure => simp [intOf]; omega
      · refine wp_region_quiet_grown (by assumption) (by kernel_rfl) ?_
        repeat (go_big_quiet_step (first | (go_at_call 28; refine Calls.gr_of (hmatch _ _))))
        refine wpQuiet_nil ?_
        intro _ hw'
        obtain ⟨⟨nq, osq⟩, hw''⟩ := hw'
        subst hw''
        have GV := hid (Gr.grow wr nq osq)
        have q1' := GV.out.cell q1
        have e0' := GV.out.cell e0
        have e1' := GV.out.cell e1
        have e2' := GV.out.cell e2
        obtain ⟨la, lc, hvl, hll, _⟩ := HL.out
        subst hvl
        have hput : ∀ W', Nw wr W' → Calls Try.prog 42 #[.slice la R1.length lc, .agg #[.int .u64 r.id, .int .u64 r.ver, .slice sa r.vals.length sc]] W' (PutDone X R1 r W') := fun W' h => put_any X _ _ R1 r W' (HL.out.kp (Nw.to h)) ⟨_, rfl, HN.out.kp (Nw.to h)⟩ (fun b hb => hF b (Nat.le_trans (Nat.le_trans HKP.out.size h.size) hb)) hsrt (by omega) hvl0
        clear hmatch f2 f3 q0 q1 e0 e1 e2
        generalize grow (wr.drewN nq) osq = V at *
        go_wp2_with fail
        go_region_held3 (fun w' => w'.cell? ⟨q, 1, none⟩ = some (.slice la R1.length lc) ∧ w'.cell? ⟨b, o + k * 3, none⟩ = some (.int .u64 r.id) ∧ w'.cell? ⟨b, o + k * 3 + 1, none⟩ = some (.int .u64 r.ver) ∧ w'.cell? ⟨b, o + k * 3 + 2, none⟩ = some (.slice sa r.vals.length sc))
          (first
            | go_keep
            | exact ⟨K1.out _ _ q1', K1.out _ _ e0', K1.out _ _ e1', K1.out _ _ e2'⟩)
          (first
            | (go_at_call 42; refine (hput _ (GV.out.trans (Gr.drew V)).nw).mono ?_; rintro e W1 ⟨v1, rfl, hnw1, hrec1⟩; have K1 : Hid (∀ (a : Addr) (v : Value), V.cell? a = some v → W1.cell? a = some v) := hid (fun a v h => ((Gr.drew V).nw.trans hnw1).cell h (fun h => h))))
        have hnw : Nw wr W1 := (GV.out.trans (Gr.drew V)).nw.trans hnw1
        have hb1 : W1.heap[q]? = some (.cells #[vb, .slice la R1.length lc] 49 (0, 0)) := hnw.heap HBP.out (fun h => h)
        have q2 : W1.cell? ⟨q, 1, none⟩ = some (.slice la R1.length lc) := hnw.cell (by simp [World.cell?, HBP.out]) (fun h => h)
        have q3 : W1.frozen? ⟨q, 1, none⟩ = false := by simp [World.frozen?, hb1]
        have hk2 : Kp (fun k => k = q) wr (W1.setCell ⟨q, 1, none⟩ v1) := Kp.setCell (X := fun k => k = q) (Nw.to hnw) (p := ⟨q, 1, none⟩) rfl v1
        have hk1X : Kp X W1 (W1.setCell ⟨q, 1, none⟩ v1) := (Kp.refl X W1).setCell (p := ⟨q, 1, none⟩) hX v1
        have hrep : RefRep X (W1.setCell ⟨q, 1, none⟩ v1) q box (if newer R1 r then rput r R1 else R1) := ⟨vb, v1, by
          have := heap_setCell_same W1 q 1 #[vb, .slice la R1.length lc] 49 v1 hb1
          simpa using this, (HB.out.kp (Nw.to hnw)).kp hk1X, hrec1.kp hk1X⟩
        have htk : takes box R1 r = newer R1 r := by simp [takes, HTT.out]
        have FIN : Hid (Kp (fun k => k = q) w (W1.setCell ⟨q, 1, none⟩ v1) ∧ RefRep X (W1.setCell ⟨q, 1, none⟩ v1) q box (gadd box L (l.take (k + 1)))) := hid ⟨HKP.out.trans hk2, by
          cases hnn : newer R1 r with
          | true => rw [(HYES.out (htk.trans hnn)).2]; simpa [hnn] using hrep
          | false => rw [(HNOT.out (htk.trans hnn)).2]; simpa [hnn] using hrep⟩
        have CNT : Hid (gcnt box L (l.take (k + 1)) = n1 + (newer R1 r).toNat) := hid (by
          cases hnn : newer R1 r with
          | true => rw [(HYES.out (htk.trans hnn)).1]; rfl
          | false => rw [(HNOT.out (htk.trans hnn)).1]; rfl)
        have hn1 : n1 ≤ 1000000000 := by
          have := gcnt_le box (l.take k) L
          rw [List.length_take, HGC.out] at this
          omega
        have hv0 := hrec1
        obtain ⟨va, vc, hv1, _, _⟩ := hv0
        generalize newer R1 r = nn at *
        clear hrep hk2 hk1X hb1 hnw htk K1 hnw1 hput q1' e0' e1' e2'
        subst hv1
        cases nn
        · go_wp2
          go_roundw
          case rel => exact ⟨k + 1, by omega, by rw [CNT.out]; rfl, by go_num, FIN⟩
          case measure => simp [intOf]; omega
        · go_wp2
          go_roundw
          case rel => exact ⟨k + 1, by omega, by rw [CNT.out]; go_num, by go_num, FIN⟩
          case measure => simp [intOf]; omega
    · have e : k = l.length := by omega
      subst e
      rw [List.take_length] at HR ⊢
      go_wp2
      go_ret
      exact ⟨rfl, HR.out.1, HR.out.2⟩

end Go.Proofs.Ytkehhopdppampaa
