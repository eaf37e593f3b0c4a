/-
  OrderW: petasoslaw18.GatherOrder, walked: it answers true and turns nothing that was there.
-/
import Derived.Test.YtkehhopdppampaaOrder
import Derived.BigRegion
namespace Go.Proofs.Ytkehhopdppampaa
set_option linter.unusedVariables false
set_option linter.unusedSimpArgs false
open Go.RowKit Go.Sort Go.Maps

theorem swap_k (z : Int) (n : Nat) (h : 0 < n) (h2 : n ≤ 40) : ∃ k : Nat, k < n ∧ wrap64 ((IntKind.u64.wrap z).tmod (n : Int)) = (k : Int) := by
  rw [IntKind.wrap_u64]
  have h0 : 0 ≤ z % 18446744073709551616 := by omega
  generalize z % 18446744073709551616 = y at *
  rw [Int.tmod_eq_emod_of_nonneg h0]
  have h1 : 0 ≤ y % (n : Int) := Int.emod_nonneg _ (by omega)
  have h3 : y % (n : Int) < n := Int.emod_lt_of_pos _ (by omega)
  generalize y % (n : Int) = x at *
  refine ⟨x.toNat, by omega, ?_⟩
  simp only [wrap64]
  omega
theorem swap_j (q n : Nat) (h : 0 < n) : ∃ j : Nat, j < n ∧ (q : Int).tmod (n : Int) = (j : Int) := ⟨q % n, Nat.mod_lt _ h, by rw [Int.tmod_eq_emod_of_nonneg (by omega)]; simp⟩

theorem one_part {X : Nat → Prop} {w : World} {b o n cap : Nat} {l : List Rec} (h : Recs X w (.slice (some ⟨b, o, none⟩) n cap) l) (k cap' : Nat) (hk : k < l.length) (hc : 1 ≤ cap') : Recs X w (.slice (some ⟨b, o + k * 3, none⟩) 1 cap') [rx l k] := by
  have := h.part (a' := some ⟨b, o + k * 3, none⟩) k 1 cap' (by omega) hc (fun _ => ⟨_, _, rfl, rfl⟩)
  have e : (l.drop k).take 1 = [rx l k] := by
    rw [rx_get hk, List.drop_eq_getElem_cons hk]
    rfl
  rwa [e] at this
theorem wfL_one {r : Rec} (h : WfRec r) : WfL [r] := fun j hj => by
  obtain rfl : j = 0 := by simpa using hj
  exact h
theorem hnw4s {w w' : World} (h : Hid (Nw w w')) : w.heap.size ≤ w'.heap.size := h.out.size

set_option maxRecDepth 100000 in
set_option maxHeartbeats 4000000 in
theorem gatherOrder_any (vb vl vt : Value) (box : List Rng) (l : List Rec) (ts : List Int) (w : World) (hb : Rngs (Old w) w vb box) (hl : Recs (Old w) w vl l) (ht : Nums (Old w) .i64 w vt ts)
    (hbl : box.length ≤ 9223372036854775807) (hlen : l.length ≤ 9223372036854775807) (htl : ts.length ≤ 9223372036854775807) (wb : WfB box) (hw : ∀ j, j < l.length → WfIn (rx l j)) :
    Calls Try.prog 3 #[vb, vl, vt] w fun e w' => e = .returned (.bool true) ∧ Nw w w' := by
  obtain ⟨i0, hi0, hz0, hz1, hz2⟩ := info_parts infoRec
  have hfew := few_any (Old w) vl l w hl hlen
  have HBX := hid hb
  obtain ⟨ab, capb, rfl, hcb, _⟩ := hb
  by_cases hb20 : 20 < box.length
  · clear hl hw ht hfew
    go_enter Try.func3, Try.ntmps3
    go_wp2_with (go_at_call 13; refine (awake_any _).mono ?_; rintro e W ⟨rfl, hnw⟩; have HNW := hid hnw; clear hnw)
    go_ret
    exact ⟨rfl, HNW.out⟩
  · cases hf : fewB l with
    | false =>
      rw [hf] at hfew
      clear hf hl hw ht
      go_enter Try.func3, Try.ntmps3
      go_wp2_with (first
        | (go_at_call 12; refine hfew.mono ?_; rintro e w' ⟨rfl, hw'⟩; subst w')
        | (go_at_call 13; refine (awake_any _).mono ?_; rintro e W ⟨rfl, hnw⟩; have HNW := hid hnw; clear hnw))
      go_ret
      exact ⟨rfl, HNW.out⟩
    | true =>
      rw [hf] at hfew
      obtain ⟨hl40, hv20⟩ := (few_iff l).1 hf
      have hmix := mixed
      obtain ⟨al, capl, rfl, hcl, hcc⟩ := hl
      obtain ⟨at_, capt, rfl, hct, htc⟩ := ht
      have HC := hid hcc
      have HT := hid htc
      have HW := hid hw
      have HV := hid hv20
      clear hf hcc hw hv20 htc
      go_enter Try.func3, Try.ntmps3
      go_wp2_with (go_at_call 12; refine hfew.mono ?_; rintro e w' ⟨rfl, hw'⟩; subst w')
      go_loopw [7, 8] (fun sv i wr => ∃ k : Nat, k ≤ l.length ∧ i = .int .i64 k ∧ Hid (Nw w wr ∧ Lst w.heap.size (Old w) wr sv (dd (l.take k)))) (fun _ i _ => l.length - (intOf i).toNat)
      case atStart => exact ⟨0, by omega, by simp, hid ⟨Nw.refl _, Lst.nil _ _ _⟩⟩
      case round =>
        obtain ⟨k, hk, rfl, HR⟩ := hrel
        by_cases hlt : k < l.length
        · obtain ⟨b, o, rfl, hx, hcell⟩ := HC.out (by omega)
          obtain ⟨s, c0, c1, c2, hs⟩ := hcell k hlt
          have hdd := dd_snoc l k hlt
          have hdl : (dd (l.take k)).length ≤ 40 := Nat.le_trans (dd_len _) (by simp; omega)
          have hnwr := HR.out.1
          have e0 := hnwr.cell c0 (fun h => h)
          have e1 := hnwr.cell c1 (fun h => h)
          have e2 := hnwr.cell c2 (fun h => h)
          have hs' := hs.kp hnwr.to
          obtain ⟨sa, sc, rfl, hsl, hsc⟩ := hs
          have HS := hid hs'
          have HDD := hid hdd
          generalize rx l k = r at *
          obtain ⟨S, hown, hn⟩ := HR.out.2
          have HO := hid hown
          have HN := hid hn
          have HNR := hid HR.out.1
          generalize dd (l.take k) = ds at *
          clear hcell c0 c1 c2 hsc hs' hnwr hdd hown hn
          obtain ⟨sva, svc, hsv, hsvl⟩ := HR.out.2.form
          have HRW : Hid (Recs (fun _ => False) wr u7 ds) := hid (HR.out.2.recs (fun _ _ h => h.elim) (fun _ _ _ h => h))
          have hrw := HRW.out
          subst hsv
          obtain ⟨a7, c7, hq1, hq2, hq3⟩ := hrw
          injection hq1 with hq4 hq5 hq6
          subst hq4 hq6
          have HQ := hid hq3
          clear HR hq2 hq3
          go_wp2
          generalize hw0 : wr = w0 at *
          clear hw0
          go_loopw [9, 10] (fun ag kk wi => ∃ q : Nat, q ≤ ds.length ∧ kk = .int .i64 q ∧ ag = .bool (has1 (ds.take q) r) ∧ Hid (Gr w0 wi)) (fun _ kk _ => ds.length - (intOf kk).toNat)
          case atStart => exact ⟨0, by omega, by simp, by simp [has1], hid (Gr.refl _)⟩
          case round =>
            obtain ⟨q, hq, rfl, rfl, HG⟩ := hrel
            by_cases hlq : q < ds.length
            · obtain ⟨b7, o7, rfl, _, hc7⟩ := HQ.out (by omega)
              obtain ⟨s7, f0, f1, f2, _⟩ := hc7 q hlq
              have f0 := HG.out.cell f0
              have f1 := HG.out.cell f1
              have g0 := HG.out.cell e0
              have g1 := HG.out.cell e1
              have hh := hid (has1_snoc ds r q hlq)
              have HH : Hid (has1 (ds.take (q + 1)) r = (has1 (ds.take q) r || same2 (rx ds q) r)) := hh
              generalize has1 (ds.take q) r = ag at *
              clear hh f2 hc7 HC HT
              cases ag with
              | true =>
                go_wp2_with fail
                go_quiet (fail)
                go_wp2
                go_roundw
                case rel => exact ⟨q + 1, by omega, by go_num, by rw [HH.out]; rfl, hid (HG.out.trans (Gr.drewN _ _))⟩
                case measure => simp [intOf]; omega
              | false =>
                by_cases h1 : (rx ds q).id = r.id
                · have hd : decide ((rx ds q).id = r.id) = true := by simpa using h1
                  go_wp2_with fail
                  go_quiet (fail)
                  go_wp2
                  go_roundw
                  case rel => exact ⟨q + 1, by omega, by go_num, by rw [HH.out]; simp [same2, h1], hid (HG.out.trans (Gr.drewN _ _))⟩
                  case measure => simp [intOf]; omega
                · have hd : decide ((rx ds q).id = r.id) = false := by simpa using h1
                  go_wp2_with fail
                  go_quiet (fail)
                  go_wp2
                  go_roundw
                  case rel => exact ⟨q + 1, by omega, by go_num, by rw [HH.out]; simp [same2, h1], hid (HG.out.trans (Gr.drewN _ _))⟩
                  case measure => simp [intOf]; omega
            · have eq : q = ds.length := by omega
              subst eq
              rw [List.take_length]
              have HNG : Hid (Nw w0 wr) := hid HG.out.nw
              cases hh : has1 ds r with
              | true =>
                rw [dd1, hh, if_pos rfl] at HDD
                clear hh HC HT HQ
                go_wp2
                go_roundw
                case rel => exact ⟨k + 1, by omega, by go_num, hid ⟨HNR.out.trans HNG.out, by rw [HDD.out]; exact Lst.nw ⟨S, HO.out, HN.out⟩ HNG.out⟩⟩
                case measure => simp [intOf]; omega
              | false =>
                rw [dd1, hh, if_neg (by simp)] at HDD
                have f0 := HG.out.cell e0
                have f1 := HG.out.cell e1
                have f2 := HG.out.cell e2
                have HSV := hid (HS.out.kp (Nw.to HNG.out))
                clear hh HC HT HQ
                go_wp2_with (at_builtin; refine wpList_app rfl _ _ 23 rfl w.heap.size 30 i0 _ 3 40 Try.underlying23 hi0 hz0 hz1 hz2 rfl (by decide) _ ds.length (rowsFrom (recC S) 0 ds) rfl ?qo _ 1 [.int .u64 r.id, .int .u64 r.ver, .slice sa r.vals.length sc] rfl ?qc1 ?qc2 ?qc3 ?qc4 ?_)
                case qo => exact Built.keptS HO.out (HNG.out.trans (Gr.alloc _ _).nw)
                case qc1 => exact src_one wr #[.int .u64 r.id, .int .u64 r.ver, .slice sa r.vals.length sc] 30 (by intro u hu; simp at hu; rcases hu with rfl | rfl | rfl <;> rfl)
                case qc2 => unfold maxLen; omega
                case qc3 => omega
                case qc4 => have e1 := HNR.out.size; have e2 := HNG.out.size; simp; omega
                intro v' w1 hown hgrow hat
                have hat' := hat.out
                rw [← World.size_alloc wr (.cells #[.int .u64 r.id, .int .u64 r.ver, .slice sa r.vals.length sc] 30)] at hat'
                have hlv := World.ownsRow.lt HO.out
                have hvs : Nums (fun b => Old w b ∨ Value.ownBlock (.slice sva ds.length svc) = some b) .u32 wr (.slice sa r.vals.length sc) r.vals := HSV.out.mono (fun b _ h => h.elim id (fun h => (hlv b h).1))
                have FIN : Hid (Nw w w1 ∧ Lst w.heap.size (Old w) w1 v' (dd (l.take (k + 1)))) := hid ⟨Nw.grown ((HNR.out.trans HNG.out).trans (Gr.alloc _ _).nw) hgrow (fun q hq => (hlv q hq).1), by
                  rw [HDD.out]
                  exact Lst.app (m := [r]) (S' := fun _ => .slice sa r.vals.length sc) HN.out (HNG.out.trans (Gr.alloc _ _).nw) (fun j hj => by
                    obtain rfl : j = 0 := by simpa using hj
                    exact hvs.gr (Gr.alloc _ _)) hown hgrow hat'⟩
                clear hown hgrow hat hat' hlv hvs
                go_wp2
                go_roundw
                case rel => exact ⟨k + 1, by omega, by go_num, FIN⟩
                case measure => simp [intOf]; omega
        · have ek : k = l.length := by omega
          subst ek
          rw [List.take_length] at HR
          have hwf1 : WfL (dd l) := (wfL_iff _).2 (fun r hr => by
            obtain ⟨j, hj, rfl⟩ := List.getElem_of_mem (dd_mem hr)
            have h1 := HW.out j hj
            have h2 := HV.out j hj
            rw [rx_get hj] at h1 h2
            exact ⟨h1.1, h1.2.1, h1.2.2, by omega⟩)
          have hol : (dd l).length ≤ 40 := Nat.le_trans (dd_len _) hl40
          have hown1 : Own1 (dd l) := dd_own l
          generalize dd l = ds at *
          generalize hw0 : wr = w0 at *
          clear hw0
          have HNR := hid HR.out.1
          have HLS := hid HR.out.2
          obtain ⟨sa, sc, rfl, hsl⟩ := HLS.out.form
          obtain ⟨S, hsrc, hSn⟩ := (HLS.out.recs (Y := Old w0) (fun b _ e => Or.inl (Nat.le_trans HNR.out.size e)) (fun b _ h1 h2 => by unfold Old at h2; omega)).src
          have HSRC := hid hsrc
          have HSN := hid hSn
          clear HR HC hsrc hSn
          go_wp2_with (at_builtin; refine wpList_app rfl _ _ 23 rfl w0.heap.size 30 i0 _ 3 40 Try.underlying23 hi0 hz0 hz1 hz2 rfl (by decide) _ 0 [] rfl (World.ownsRow_nil _ _ _ _) _ ds.length _ rfl HSRC.out ?qc2 ?qc3 (Nat.le_refl _) ?_)
          case qc2 => unfold maxLen; omega
          case qc3 => omega
          intro v' w1 hown hgrow hat
          have HM : Hid (Nw w0 w1 ∧ Lst w0.heap.size (Old w0) w1 v' ds) := hid ⟨Nw.grown (Nw.refl _) hgrow (fun q hq => by cases hq), by
            have := Lst.app (B := w0.heap.size) (X := Old w0) (v := .slice none 0 0) (l := []) (m := ds) (S := fun _ => default) (S' := S) (fun j hj => absurd hj (by simp)) (Nw.refl w0) (fun j hj => (HSN.out j hj).mono (fun b _ h => h.elim id (fun h => by cases h))) (by simpa [rowsFrom] using hown) hgrow hat.out
            simpa using this⟩
          obtain ⟨ma, mc, rfl, hml⟩ := HM.out.2.form
          clear hown hgrow hat
          go_wp2
          go_loopw [12] (fun i wr => ∃ q : Nat, ∃ ms : List Rec, q ≤ ts.length ∧ q ≤ 60 ∧ i = .int .i64 q ∧ Hid (ms.Perm ds) ∧ Hid (Nw w0 wr ∧ Lst w0.heap.size (Old w0) wr (.slice ma ds.length mc) ms)) (fun i _ => ts.length - (intOf i).toNat)
          case atStart => exact ⟨0, ds, by omega, by omega, by simp, hid (List.Perm.refl _), HM⟩
          case round =>
            obtain ⟨q, ms, hq1, hq2, rfl, HP, HL⟩ := hrel
            have hmsl : ms.length = ds.length := HP.out.length_eq
            by_cases hgo : q < ts.length ∧ q < 60 ∧ 0 < ds.length
            · obtain ⟨hg1, hg2, hg3⟩ := hgo
              obtain ⟨tb, to, rfl, _, htc⟩ := HT.out (by omega)
              have t0 := (HNR.out.trans HL.out.1).cell (htc q hg1) (fun h => h)
              generalize gx ts q = tz at *
              obtain ⟨S2, hown2, hn2⟩ := HL.out.2
              obtain ⟨g, mc2, hmv, hgb, hgl⟩ := own_form hown2 (by omega)
              injection hmv with hmv1 hmv2 hmv3
              subst hmv1 hmv3
              clear htc hmv2
              obtain ⟨k, hkn, hkr⟩ := swap_k tz ds.length hg3 hol
              obtain ⟨j, hjn, hjr⟩ := swap_j q ds.length hg3
              have nk := hn2 k (by omega)
              have nj := hn2 j (by omega)
              have ck := rows_get (recC S2) 3 (recC_len S2) ms 0 k
              have cj := rows_get (recC S2) 3 (recC_len S2) ms 0 j
              have hcell : ∀ c, c < ds.length * 3 → wr.cell? ⟨g, c, none⟩ = (rowsFrom (recC S2) 0 ms)[c]? := fun c hc => by rw [hmsl] at hown2; exact World.ownsRow.cellAt hown2 c hc
              have hfz : ∀ c, wr.frozen? ⟨g, c, none⟩ = false := fun c => by rw [hmsl] at hown2; exact World.ownsRow.frozenAt hown2 c
              have k0 : wr.cell? ⟨g, k * 3, none⟩ = some (.int .u64 (rx ms k).id) := by rw [hcell _ (by omega)]; have := ck 0 (by omega) (by omega); simp only [Nat.add_zero] at this; rw [this, rx_get (by omega)]; simp [recC]
              have k1 : wr.cell? ⟨g, k * 3 + 1, none⟩ = some (.int .u64 (rx ms k).ver) := by rw [hcell _ (by omega), ck 1 (by omega) (by omega), rx_get (by omega)]; simp [recC]
              have k2 : wr.cell? ⟨g, k * 3 + 2, none⟩ = some (S2 k) := by rw [hcell _ (by omega), ck 2 (by omega) (by omega)]; simp [recC]
              have j0 : wr.cell? ⟨g, j * 3, none⟩ = some (.int .u64 (rx ms j).id) := by rw [hcell _ (by omega)]; have := cj 0 (by omega) (by omega); simp only [Nat.add_zero] at this; rw [this, rx_get (by omega)]; simp [recC]
              have j1 : wr.cell? ⟨g, j * 3 + 1, none⟩ = some (.int .u64 (rx ms j).ver) := by rw [hcell _ (by omega), cj 1 (by omega) (by omega), rx_get (by omega)]; simp [recC]
              have j2 : wr.cell? ⟨g, j * 3 + 2, none⟩ = some (S2 j) := by rw [hcell _ (by omega), cj 2 (by omega) (by omega)]; simp [recC]
              obtain ⟨ka, kc, hsk, _⟩ := nk
              obtain ⟨ja, jc, hsj, _⟩ := nj
              rw [hsk] at k2
              rw [hsj] at j2
              have HN2 := hid hn2
              have HSK := hid hsk
              have HSJ := hid hsj
              have hown3 := hown2
              rw [hmsl] at hown3
              have hv1 := ((((hown3.stored (j * 3) (.int .u64 (rx ms k).id)).1).stored (j * 3 + 1) (.int .u64 (rx ms k).ver)).1.stored (j * 3 + 2) (.slice ka (rx ms k).vals.length kc)).1
              have hvf := hv1.frozenAt
              have hvc : ∀ c, c < ds.length * 3 → ∃ y, (((wr.setCell ⟨g, j * 3, none⟩ (.int .u64 (rx ms k).id)).setCell ⟨g, j * 3 + 1, none⟩ (.int .u64 (rx ms k).ver)).setCell ⟨g, j * 3 + 2, none⟩ (.slice ka (rx ms k).vals.length kc)).cell? ⟨g, c, none⟩ = some y := fun c hc => by
                rw [hv1.cellAt c hc]
                exact ⟨_, List.getElem?_eq_getElem (by rw [hv1.1]; exact hc)⟩
              obtain ⟨y0, hy0⟩ := hvc (k * 3) (by omega)
              obtain ⟨y1, hy1⟩ := hvc (k * 3 + 1) (by omega)
              obtain ⟨y2, hy2⟩ := hvc (k * 3 + 2) (by omega)
              have HO3 := hid hown3
              clear hvc hv1 hown3
              clear hcell ck cj hown2 hn2 hsk hsj
              go_wp2_with fail
              generalize hrk : rx ms k = rk at *
              generalize hrj : rx ms j = rj at *
              have HRK := hid hrk
              have HRJ := hid hrj
              clear hrk hrj hkr
              have FIN : Hid (((ms.set j rk).set k rj).Perm ds) ∧ Hid (Nw w0 ((((((wr.setCell ⟨g, j * 3, none⟩ (.int .u64 rk.id)).setCell ⟨g, j * 3 + 1, none⟩ (.int .u64 rk.ver)).setCell ⟨g, j * 3 + 2, none⟩ (.slice ka rk.vals.length kc)).setCell ⟨g, k * 3, none⟩ (.int .u64 rj.id)).setCell ⟨g, k * 3 + 1, none⟩ (.int .u64 rj.ver)).setCell ⟨g, k * 3 + 2, none⟩ (.slice ja rj.vals.length jc)).drew ∧
                  Lst w0.heap.size (Old w0) ((((((wr.setCell ⟨g, j * 3, none⟩ (.int .u64 rk.id)).setCell ⟨g, j * 3 + 1, none⟩ (.int .u64 rk.ver)).setCell ⟨g, j * 3 + 2, none⟩ (.slice ka rk.vals.length kc)).setCell ⟨g, k * 3, none⟩ (.int .u64 rj.id)).setCell ⟨g, k * 3 + 1, none⟩ (.int .u64 rj.ver)).setCell ⟨g, k * 3 + 2, none⟩ (.slice ja rj.vals.length jc)).drew (.slice (some ⟨g, 0, none⟩) ds.length mc) ((ms.set j rk).set k rj)) := by
                obtain ⟨sw1, sw2⟩ := Lst.swap HO3.out hmsl HN2.out (j := j) (k := k) (by omega) (by omega)
                have hp := perm_swap ms (j := j) (k := k) (by omega) (by omega)
                simp only [HRK.out, HRJ.out, HSK.out, HSJ.out] at sw1 sw2 hp
                exact ⟨hid (hp.trans HP.out), hid ⟨(Nw.kpX HL.out.1 sw2 (fun i e => by rw [e]; exact hgb)).drew, sw1.nw (Gr.drew _).nw⟩⟩
              obtain ⟨FP, FL⟩ := FIN
              go_region
              clear hfz hvf hy0 hy1 hy2 k0 k1 k2 j0 j1 j2 HO3 HN2 HSK HSJ HRK HRJ
              go_wp2
              go_roundw
              case rel => exact ⟨q + 1, _, by omega, by omega, by go_num, FP, FL⟩
              case measure => simp [intOf]; omega
            · have hex : ¬ q < ts.length ∨ (q < ts.length ∧ ¬ q < 60) ∨ (q < ts.length ∧ q < 60 ∧ ds.length < 1) := by
                omega
              generalize hw3 : wr = w3 at *
              clear hw3 hgo
              have HN3 := hid (HNR.out.trans HL.out.1)
              have HS3 : Hid (Recs (Old w3) w3 (.slice sa ds.length sc) ds) := hid (((HLS.out.recs (Y := Old w0) (fun b _ e => Or.inl (Nat.le_trans HNR.out.size e)) (fun b _ h1 h2 => by unfold Old at h2; omega)).kp (Nw.to HL.out.1)).mono (fun b _ h => Nat.le_trans HL.out.1.size h))
              have HM3 : Hid (Recs (Old w3) w3 (.slice ma ds.length mc) ms) := hid (HL.out.2.recs (fun b h1 h2 => by unfold Old at h2; omega) (fun b _ h1 h2 => by unfold Old at h2; omega))
              have HB3 := hid (HBX.out.kp (Nw.to HN3.out))
              have hwfm : WfL ms := (wfL_iff _).2 (fun r hr => (wfL_iff _).1 hwf1 r (HP.out.mem_iff.1 hr))
              clear HL HM HLS HNR HSRC HSN HT
              rcases hex with hx1 | ⟨hx1, hx2⟩ | ⟨hx1, hx2, hx3⟩
              all_goals
                go_wp2_with fail
                refine (new_any (Old w) _ box _ HB3.out (by omega)).mono ?_
                rintro e W4 ⟨px, mbx, rfl, hnw4, a1, a2, a3, a4, a5, hGx⟩
                have HN4 := hid hnw4
                have HGX := hid hGx
                clear hnw4 hGx
                go_wp2_with fail
                refine (new_any (Old w) _ box _ (HB3.out.kp (Nw.to HN4.out)) (by omega)).mono ?_
                rintro e W5 ⟨py, mby, rfl, hnw5, b1, b2, b3, b4, b5, hGy⟩
                have HN5 := hid hnw5
                have hs34 := hnw4s HN4
                have hs45 := hnw4s HN5
                have HGx : Hid (GRep (fun b => b = mbx ∨ b = mby) W5 px mbx box []) := hid ((GRep.new HGX.out (X := fun b => b = mbx ∨ b = mby) (fun b hb => hb.imp id (fun h => Or.inr (by omega)))).nw hnw5)
                have HGy : Hid (GRep (fun b => b = mbx ∨ b = mby) W5 py mby box []) := hid (GRep.new hGy (X := fun b => b = mbx ∨ b = mby) (fun b hb => hb.elim (fun h => Or.inr (Or.inl (by omega))) (fun h => Or.inl h)))
                have HS5 : Hid (Recs (fun b => b = mbx ∨ b = mby) W5 (.slice sa ds.length sc) ds) := hid ((HS3.out.kp (Nw.to (HN4.out.trans hnw5))).mono (fun b _ h => by unfold Old; omega))
                have HM5 : Hid (Recs (fun b => b = mbx ∨ b = mby) W5 (.slice ma ds.length mc) ms) := hid ((HM3.out.kp (Nw.to (HN4.out.trans hnw5))).mono (fun b _ h => by unfold Old; omega))
                clear hnw5 hGy
                go_wp2_with fail
                refine (add_any (fun b => b = mbx ∨ b = mby) px mbx box [] ds _ _ HGx.out (Or.inl rfl) (fun b hb h => by omega) HS5.out hwf1 wb (by omega) (by simp; omega)).mono ?_
                rintro e W6 ⟨rfl, hk6, hGx6⟩
                have hs56 := hk6.size
                have HGx6 := hid hGx6
                have HGy6 : Hid (GRep (fun b => b = mbx ∨ b = mby) W6 py mby box []) := hid (HGy.out.kp hk6 (fun k _ e => Or.inl e) (by omega) (by omega))
                have HM6 : Hid (Recs (fun b => b = mbx ∨ b = mby) W6 (.slice ma ds.length mc) ms) := hid (HM5.out.kp (hk6.mono (fun k _ e => Or.inl e)))
                have HN6 : Hid (Nw w W6) := hid (Nw.kpX (HN3.out.trans (HN4.out.trans HN5.out)) hk6 (fun i e => by have := HN3.out.size; omega))
                clear hk6 hGx6 HGx HGy HS5 HM5 HGX
                go_wp2
                go_loopw [16] (fun i wr => ∃ q : Nat, q ≤ ms.length ∧ i = .int .i64 q ∧ Hid (Kp (fun b => b = mbx ∨ b = mby) W6 wr ∧ GRep (fun b => b = mbx ∨ b = mby) wr px mbx box (gadd box [] ds) ∧ GRep (fun b => b = mbx ∨ b = mby) wr py mby box (gadd box [] (ups ms q)))) (fun i _ => ms.length - (intOf i).toNat)
                case atStart => exact ⟨0, by omega, by simp, hid ⟨Kp.refl _ _, HGx6.out, by simpa [ups, gadd] using HGy6.out⟩⟩
                case round =>
                  obtain ⟨q4, hq4, rfl, HX⟩ := hrel
                  by_cases hq5 : q4 < ds.length
                  · (try (exfalso; omega))
                    all_goals
                      obtain ⟨ma0, mc0, hmv0, hml0, hmc0⟩ := HM6.out
                      injection hmv0 with hmv1 hmv2 hmv3
                      obtain ⟨mg, mo, hmg, hmx, hmcc⟩ := hmc0 (by omega)
                      subst hmv1
                      subst hmg
                      subst hmv3
                      clear hmc0 hmv2 hmcc
                      have hmr := HM6.out.kp HX.out.1
                      have hone := one_part hmr q4 (mc - q4) (by omega) (by omega)
                      have hpre := hmr.part (a' := some ⟨mg, mo, none⟩) 0 q4 mc (by omega) (by omega) (fun _ => ⟨_, _, rfl, by simp⟩)
                      rw [List.drop_zero] at hpre
                      have HONE := hid hone
                      have HPRE := hid hpre
                      have hul := ups_len ms q4 hq4
                      have hgl1 := gadd_length box (ups ms q4) []
                      have hq41 : q4 * (ms.length + 1) ≤ 40 * 41 := Nat.mul_le_mul (by omega) (by omega)
                      have hupn : gadd box (gadd box [] (ups ms q4)) [rx ms q4] = gadd box [] (ups ms q4 ++ [rx ms q4]) := by simp [gadd]
                      have hupm : gadd box (gadd box [] (ups ms q4 ++ [rx ms q4])) (ms.take q4) = gadd box [] (ups ms (q4 + 1)) := by simp [gadd, ups]
                      have hgl2 := gadd_length box (ups ms q4 ++ [rx ms q4]) []
                      simp only [List.length_append, List.length_nil, List.length_cons] at hgl1 hgl2
                      have HUPN := hid hupn
                      have HUPM := hid hupm
                      have HSZ := hid HX.out.1.size
                      clear hmr hone hpre hupn hupm
                      go_wp2_with fail
                      refine (add_any (fun b => b = mbx ∨ b = mby) py mby box (gadd box [] (ups ms q4)) [rx ms q4] _ wr HX.out.2.2 (Or.inr rfl) (fun b hb h => by have := HSZ.out; omega) HONE.out (wfL_one (hwfm q4 (by omega))) wb (by omega) (by simp; omega)).mono ?_
                      rintro e W7 ⟨rfl, hk7, hG7⟩
                      rw [HUPN.out] at hG7
                      have HX7 : Hid (Kp (fun b => b = mbx ∨ b = mby) W6 W7 ∧ GRep (fun b => b = mbx ∨ b = mby) W7 px mbx box (gadd box [] ds) ∧ GRep (fun b => b = mbx ∨ b = mby) W7 py mby box (gadd box [] (ups ms q4 ++ [rx ms q4]))) := hid ⟨HX.out.1.trans (hk7.mono (fun k _ e => Or.inr e)), HX.out.2.1.kp hk7 (fun k _ e => Or.inr e) (by omega) (by omega), hG7⟩
                      have HPRE7 := hid (HPRE.out.kp (hk7.mono (fun k _ e => Or.inr e)))
                      have HSZ7 := hid HX7.out.1.size
                      clear hk7 hG7
                      go_wp2_with fail
                      refine (add_any (fun b => b = mbx ∨ b = mby) py mby box (gadd box [] (ups ms q4 ++ [rx ms q4])) (ms.take q4) _ W7 HX7.out.2.2 (Or.inr rfl) (fun b hb h => by have := HSZ7.out; omega) HPRE7.out ((wfL_iff _).2 (fun r hr => (wfL_iff _).1 hwfm r (List.mem_of_mem_take hr))) wb (by omega) (by simp; omega)).mono ?_
                      rintro e W8 ⟨rfl, hk8, hG8⟩
                      rw [HUPM.out] at hG8
                      have HX8 : Hid (Kp (fun b => b = mbx ∨ b = mby) W6 W8 ∧ GRep (fun b => b = mbx ∨ b = mby) W8 px mbx box (gadd box [] ds) ∧ GRep (fun b => b = mbx ∨ b = mby) W8 py mby box (gadd box [] (ups ms (q4 + 1)))) := hid ⟨HX7.out.1.trans (hk8.mono (fun k _ e => Or.inr e)), HX7.out.2.1.kp hk8 (fun k _ e => Or.inr e) (by omega) (by omega), hG8⟩
                      clear hk8 hG8
                      go_wp2
                      go_roundw
                      case rel => exact ⟨q4 + 1, by omega, by go_num, HX8⟩
                      case measure => simp [intOf]; omega
                  · have hq6 : q4 = ms.length := by omega
                    subst hq6
                    have hlaw : gadd box [] (ups ms ms.length) = gadd box [] ds := (order_law hown1 (fun r => by rw [ups_mem ms ms.length (Nat.le_refl _) r, List.take_length]; exact HP.out.mem_iff.symm)).symm
                    rw [hlaw] at HX
                    have hsrt : Srt (gadd box [] ds) := srt_gadd _ _ _ (by simp [Srt])
                    have hwfR : WfL (gadd box [] ds) := wfL_gadd (fun j hj => absurd hj (by simp)) hwf1
                    have hRl : (gadd box [] ds).length ≤ 40 := by have := gadd_length box ds []; simp at this; omega
                    generalize gadd box [] ds = R at *
                    have HWX := hid (Nw.kpX HN6.out HX.out.1 (fun i e => by have := HN3.out.size; omega))
                    have HRV : Hid (∀ j, j < R.length → (rx R j).vals.length ≤ 1000000000000000) := hid (fun j hj => by have := (hwfR j hj).2.2.2; omega)
                    have HQX := hid HX.out.2.1
                    have HQY := hid HX.out.2.2
                    clear HX hlaw
                    go_wp2_with fail
                    refine (awake_any _).mono ?_
                    rintro e W9 ⟨rfl, hnw9⟩
                    have HN9 := hid hnw9
                    clear hnw9
                    go_wp2_with fail
                    refine (all_any _ px mbx box R _ (HQX.out.nw HN9.out) hsrt hwfR (by omega)).mono ?_
                    rintro e WA ⟨va, rfl, hnwA, hBA⟩
                    have HFA := hid (hBA.recs (Y := fun _ => False) (fun _ _ h => h))
                    have HNA := hid hnwA
                    clear hnwA hBA
                    go_wp2_with fail
                    refine (all_any _ py mby box R _ (HQY.out.nw (HN9.out.trans HNA.out)) hsrt hwfR (by omega)).mono ?_
                    rintro e WB ⟨vb2, rfl, hnwB, hBB⟩
                    have HFB := hid (hBB.recs (Y := fun _ => False) (fun _ _ h => h))
                    have HNB := hid hnwB
                    clear hnwB hBB
                    go_wp2_with fail
                    refine (records_true (fun _ => False) (fun _ => False) _ _ R _ (HFA.out.kp (Nw.to HNB.out)) HFB.out (by omega) HRV.out).mono ?_
                    rintro e WC ⟨rfl, hgC⟩
                    have HGC := hid hgC
                    clear hgC
                    go_wp2
                    go_ret
                    exact ⟨rfl, (((HWX.out.trans HN9.out).trans HNA.out).trans HNB.out).trans HGC.out.nw⟩

end Go.Proofs.Ytkehhopdppampaa
