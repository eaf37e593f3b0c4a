/-
  RefFind: the reference's model: Find.
-/
import Derived.Test.YtkehhopdppampaaRefGet
namespace Go.Proofs.Ytkehhopdppampaa
set_option linter.unusedVariables false
set_option linter.unusedSimpArgs false
open Go.RowKit Go.Sort Go.Maps

def rhits (b : List Rng) (L : List Rec) : List Rec := L.filter fun r => mB b r.vals
theorem rhits_snoc (b : List Rng) (L : List Rec) (k : Nat) (h : k < L.length) : rhits b (L.take (k + 1)) = if mB b (rx L k).vals then rhits b (L.take k) ++ [rx L k] else rhits b (L.take k) := by
  unfold rhits
  rw [take_snocR L k h, List.filter_append]
  cases e : mB b (rx L k).vals <;> simp [e]
def rfindB (attrs : Int) (L : List Rec) (b : List Rng) : List Rec := if rightBox attrs b then rhits b L else []

set_option maxRecDepth 100000 in
set_option maxHeartbeats 4000000 in
theorem refFind_any (B : Nat) (Z : Nat → Prop) (q : Nat) (attrs : Int) (L : List Rec) (ids lst : List Int) (vb : Value) (b : List Rng) (w : World) (hG : RM B Z w q attrs L ids lst) (hB : Rngs Z w vb b) (hn : L.length ≤ 1000000000) (hW : WfL L) (wb : WfB b) (hbl : b.length ≤ 1000000000000) :
    Calls Try.prog 34 #[.pointer (some ⟨q, 0, none⟩), vb] w fun e w' => ∃ v, e = .returned v ∧ Nw w w' ∧ FRecs w.heap.size w' v (rfindB attrs L b) := by
  obtain ⟨i0, hi0, hz0, hz1, hz2⟩ := info_parts infoRec
  have hbr := refBoxRight_any Z attrs vb b w hB (by omega)
  have HB := hid hB
  obtain ⟨ba, bc, rfl, hbc, _⟩ := hB
  obtain ⟨la, lc, ia, ic, ta, tc, h1, h2, h3, h4, h5, h6, h7, h8⟩ := hG
  have q0 : w.cell? ⟨q, 0, none⟩ = some (.int .i64 attrs) := by simp [World.cell?, h1]
  have q1 : w.cell? ⟨q, 1, none⟩ = some (.slice la L.length lc) := by simp [World.cell?, h1]
  obtain ⟨la', lc', hlv, hcl, hcc⟩ := h2
  injection hlv with e1 e2 e3
  subst e1 e3
  have HC := hid hcc
  clear hcc e2 h1 h3 h4 h5 h6 h7 h8
  unfold rfindB
  cases hrb : rightBox attrs b with
  | false =>
    rw [hrb] at hbr
    clear hrb HC
    go_enter Try.func34, Try.ntmps34
    go_wp2_with (go_at_call 27; refine hbr.mono ?_; rintro e W1 ⟨rfl, hg⟩; have HG := hid hg; clear hg)
    go_ret
    exact ⟨_, rfl, HG.out.nw, fun Y hY => ⟨none, 0, rfl, by simp, fun h => absurd h (by simp)⟩⟩
  | true =>
    rw [hrb] at hbr
    rw [if_pos rfl]
    clear hrb
    go_enter Try.func34, Try.ntmps34
    go_wp2_with (go_at_call 27; refine hbr.mono ?_; rintro e W ⟨rfl, hg⟩; have HG := hid hg; clear hg)
    go_loopw [5, 6] (fun lv i wr => ∃ k : Nat, k ≤ L.length ∧ i = .int .i64 k ∧ Hid (Nw W wr ∧ Built W.heap.size wr lv (rhits b (L.take k)))) (fun _ i _ => L.length - (intOf i).toNat)
    case atStart => exact ⟨0, by omega, by simp, hid ⟨Nw.refl _, Built.nil _ _⟩⟩
    case round =>
      obtain ⟨k, hk, rfl, HR⟩ := hrel
      have q2 := HR.out.1.cell (HG.out.cell q1) (fun h => h)
      by_cases hlt : k < L.length
      · obtain ⟨lb, lo, rfl, hx, hcell⟩ := HC.out (by omega)
        obtain ⟨s, c0, c1, c2, hs⟩ := hcell k hlt
        obtain ⟨g1, S, hown, hnums⟩ := HR.out
        have HN := hid hnums
        have e0 := g1.cell (HG.out.cell c0) (fun h => h)
        have e1 := g1.cell (HG.out.cell c1) (fun h => h)
        have e2 := g1.cell (HG.out.cell c2) (fun h => h)
        have hwx := hW k hlt
        have hs' := hs.kp (Nw.to (HG.out.nw.trans g1))
        obtain ⟨sa, sc, rfl, hsl, _⟩ := hs
        have HV := hid hs'
        have HO := hid hown
        have HG1 := hid g1
        have hsn := hid (rhits_snoc b L k hlt)
        have hln2 : (rhits b (L.take k)).length ≤ L.length := Nat.le_trans (List.length_filter_le _ _) (by simp; omega)
        have HWX := hid hwx
        have HRR := HR
        have hmatch : ∀ W', Gr wr W' → Calls Try.prog 28 #[.slice ba b.length bc, .slice sa (rx L k).vals.length sc] W' fun e w' => e = .returned (.bool (mB b (rx L k).vals)) ∧ Gr W' w' := fun W' hW' =>
          refMatch_any Z _ _ b (rx L k).vals W' (HB.out.kp (Nw.to ((HG.out.nw.trans HG1.out).trans hW'.nw))) (HV.out.gr hW') (by omega) (by have h : (rx L k).vals.length ≤ 1000000000000 := hwx.2.2.2; omega) wb hwx.2.2.1
        clear hcell c0 c1 c2 hs' hown g1 HR hnums hwx
        generalize hrk : rx L k = xr at *
        clear hrk
        generalize hfs : rhits b (L.take k) = fs at *
        clear hfs
        generalize mB b xr.vals = mt at *
        cases mt with
        | false =>
          go_wp2_with (go_at_call 28; refine (hmatch _ (Gr.refl _)).mono ?_; rintro e W2 ⟨rfl, hg2⟩; have HG2 := hid hg2; clear hg2)
          go_roundw
          case rel => exact ⟨k + 1, by omega, by go_num, by have h := hsn.out; simp only [Bool.false_eq_true, if_false] at h; rw [h]; exact hid ⟨HRR.out.1.trans HG2.out.nw, ⟨S, Built.keptS HO.out HG2.out.nw, fun j hj Y hY => (HN.out j hj Y hY).gr HG2.out⟩⟩⟩
          case measure => simp [intOf]; omega
        | true =>
          go_wp2_with fail
          refine (hmatch _ (Gr.refl _)).mono ?_
          rintro e W2 ⟨rfl, hg2⟩
          have d0 := hg2.cell e0
          have d1 := hg2.cell e1
          have d2 := hg2.cell e2
          have q3 := hg2.cell q2
          have HG2 := hid hg2
          clear hg2 hmatch
          go_wp2_with fail
          refine (copyRec_any Z _ xr _ ⟨_, rfl, HV.out.gr HG2.out⟩ HWX.out.2.2.2).mono ?_
          rintro e W3 ⟨v2, rfl, hnw, hrec⟩
          obtain ⟨s2, rfl, hs2⟩ := RecV.fresh hrec
          have HS2 := hid hs2
          have HNW := hid (HG2.out.nw.trans hnw)
          have HSZ := hid hnw.size
          clear hrec hs2 hnw
          go_wp2_with (at_builtin; refine wpList_app rfl _ _ 23 rfl W.heap.size 30 i0 _ 3 40 Try.underlying23 hi0 hz0 hz1 hz2 rfl (by decide) _ fs.length (rowsFrom (recC S) 0 fs) rfl ?qo _ 1 [.int .u64 xr.id, .int .u64 xr.ver, s2] rfl ?qc1 ?qc2 ?qc3 ?qc4 ?_)
          case qo => exact Built.keptS HO.out ((HNW.out.trans (Gr.alloc _ _).nw))
          case qc1 => exact src_one W3 #[.int .u64 xr.id, .int .u64 xr.ver, s2] 30 (by have := HS2.out (fun _ => False) (fun _ _ h => h); obtain ⟨_, _, e, _⟩ := this; intro u hu; simp at hu; rcases hu with rfl | rfl | rfl <;> first | rfl | (rw [e]; rfl))
          case qc2 => unfold maxLen; omega
          case qc3 => omega
          case qc4 => have e1 := HG1.out.size; have e2 := HNW.out.size; simp; omega
          intro v' w1 hown hgrow hat
          have hat' := hat.out
          rw [← World.size_alloc W3 (.cells #[.int .u64 xr.id, .int .u64 xr.ver, s2] 30)] at hat'
          have hlv : ∀ q, Value.ownBlock u5 = some q → W.heap.size ≤ q := fun q hq => (World.ownsRow.lt HO.out q hq).1
          have FIN : Hid (Nw W w1 ∧ Built W.heap.size w1 v' (rhits b (L.take (k + 1)))) := hid (by
            have h1 : Nw W w1 := Nw.grown ((HG1.out.trans HNW.out).trans (Gr.alloc _ _).nw) hgrow hlv
            refine ⟨h1, ?_⟩
            have h := hsn.out
            simp only [if_true] at h
            rw [h]
            refine Built.snoc (S := S) (s := s2) ?_ ?_ hown
            · intro j hj Y hY
              have h0 := HN.out j hj Y hY
              exact Nums.appended h0 (HNW.out.trans (Gr.alloc _ _).nw) hgrow hat'
            · intro Y hY
              exact Nums.appended ((HS2.out (fun b => Y b ∨ Value.ownBlock u5 = some b) (fun b hb h => h.elim (hY b (by have := HG1.out.size; have := HG2.out.size; omega)) (fun h => by have h1 := (World.ownsRow.lt HO.out b h).2; have := HG2.out.size; omega)))) (Gr.alloc _ _).nw hgrow hat')
          clear hown hgrow hlv hat hat'
          go_wp2
          go_roundw
          case rel => exact ⟨k + 1, by omega, by go_num, FIN⟩
          case measure => simp [intOf]; omega
      · have e : k = L.length := by omega
        subst e
        rw [List.take_length] at HR
        clear HC
        go_wp2
        go_ret
        exact ⟨_, rfl, HG.out.nw.trans HR.out.1, fun Y hY => (HR.out.2.mono HG.out.size).recs hY⟩

end Go.Proofs.Ytkehhopdppampaa
