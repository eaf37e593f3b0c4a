/-
  Pages: petasoslaw18.GatherPages, walked: it answers true and turns nothing that was there.
-/
import Derived.Test.YtkehhopdppampaaLists
import Derived.Test.YtkehhopdppampaaOpens
namespace Go.Proofs.Ytkehhopdppampaa
set_option linter.unusedVariables false
set_option linter.unusedSimpArgs false
open Go.RowKit Go.Sort Go.Maps

theorem few_iff (l : List Rec) : fewB l = true ↔ l.length ≤ 40 ∧ ∀ j, j < l.length → (rx l j).vals.length ≤ 20 := by
  simp only [fewB, Bool.and_eq_true, decide_eq_true_eq, List.all_eq_true]
  refine ⟨fun h => ⟨h.1, fun j hj => by rw [rx_get hj]; exact h.2 _ (List.getElem_mem hj)⟩, fun h => ⟨h.1, fun r hr => ?_⟩⟩
  obtain ⟨j, hj, rfl⟩ := List.getElem_of_mem hr
  have := h.2 j hj
  rwa [rx_get hj] at this
theorem mem_rins {r z : Rec} : ∀ {R : List Rec}, z ∈ rins r R ↔ z = r ∨ z ∈ R
  | [] => by simp [rins]
  | y :: R => by
    unfold rins
    split
    · simp
    · rw [List.mem_cons, mem_rins, List.mem_cons]
      constructor
      · rintro (h | h | h)
        · exact Or.inr (Or.inl h)
        · exact Or.inl h
        · exact Or.inr (Or.inr h)
      · rintro (h | h | h)
        · exact Or.inr (Or.inl h)
        · exact Or.inl h
        · exact Or.inr (Or.inr h)
theorem srt_rins {r : Rec} : ∀ {R : List Rec}, Srt R → (∀ y ∈ R, y.id ≠ r.id) → Srt (rins r R)
  | [], _, _ => by simp [rins, Srt]
  | y :: R, h, hne => by
    obtain ⟨h1, h2⟩ := List.pairwise_cons.1 h
    unfold rins
    split
    · rename_i hlt
      refine List.pairwise_cons.2 ⟨fun z hz => ?_, h⟩
      rcases List.mem_cons.1 hz with rfl | hz
      · exact hlt
      · have := h1 z hz; omega
    · rename_i hlt
      refine List.pairwise_cons.2 ⟨fun z hz => ?_, srt_rins h2 (fun y hy => hne y (List.mem_cons_of_mem _ hy))⟩
      have hy := hne y (List.mem_cons_self ..)
      rcases mem_rins.1 hz with rfl | hz
      · omega
      · exact h1 z hz
theorem Srt.filter {R : List Rec} (h : Srt R) (p : Rec → Bool) : Srt (R.filter p) := List.Pairwise.filter _ h
theorem srt_rput {r : Rec} {R : List Rec} (h : Srt R) : Srt (rput r R) := srt_rins (h.filter _) (fun y hy => by simpa using (List.mem_filter.1 hy).2)
theorem srt_gadd (box : List Rng) : ∀ (l R : List Rec), Srt R → Srt (gadd box R l)
  | [], R, h => h
  | r :: l, R, h => by
    simp only [gadd, List.foldl_cons]
    refine srt_gadd box l _ ?_
    unfold gadd1
    split
    · exact srt_rput h
    · exact h
theorem mem_rput {r z : Rec} {R : List Rec} : z ∈ rput r R ↔ z = r ∨ (z ∈ R ∧ z.id ≠ r.id) := by
  unfold rput
  rw [mem_rins, List.mem_filter]
  simp
/-- What is there came in. -/
theorem mem_gadd (box : List Rng) : ∀ (l R : List Rec) (z : Rec), z ∈ gadd box R l → z ∈ R ∨ z ∈ l
  | [], R, z, h => Or.inl h
  | r :: l, R, z, h => by
    simp only [gadd, List.foldl_cons] at h
    rcases mem_gadd box l _ z h with h | h
    · unfold gadd1 at h
      split at h
      · rcases mem_rput.1 h with rfl | ⟨h, _⟩
        · exact Or.inr (List.mem_cons_self ..)
        · exact Or.inl h
      · exact Or.inl h
    · exact Or.inr (List.mem_cons_of_mem _ h)
theorem wfL_iff (l : List Rec) : WfL l ↔ ∀ r ∈ l, WfRec r := by
  refine ⟨fun h r hr => ?_, fun h j hj => by rw [rx_get hj]; exact h _ (List.getElem_mem hj)⟩
  obtain ⟨j, hj, rfl⟩ := List.getElem_of_mem hr
  have := h j hj
  rwa [rx_get hj] at this
theorem wfL_gadd {box : List Rng} {l R : List Rec} (h1 : WfL R) (h2 : WfL l) : WfL (gadd box R l) := by
  rw [wfL_iff] at *
  intro r hr
  rcases mem_gadd box l R r hr with h | h
  · exact h1 r h
  · exact h2 r h

def one1 (l : List Rec) : List Rec := l.filter fun r => decide (r.vals.length = 1)
theorem one1_snoc (l : List Rec) (k : Nat) (h : k < l.length) : one1 (l.take (k + 1)) = if (rx l k).vals.length = 1 then one1 (l.take k) ++ [rx l k] else one1 (l.take k) := by
  rw [take_snocR l k h, one1, List.filter_append]
  split <;> rename_i e <;> simp [one1, e]
theorem one1_len (l : List Rec) : (one1 l).length ≤ l.length := List.length_filter_le _ _
theorem one1_mem {l : List Rec} {r : Rec} (h : r ∈ one1 l) : r ∈ l := (List.mem_filter.1 h).1

theorem pages_n (n : Int) : ∃ N : Int, wrap64 (1 + wrap64 ((IntKind.u64.wrap n).tmod 7)) = N ∧ 1 ≤ N ∧ N ≤ 7 := by
  refine ⟨_, rfl, ?_⟩
  rw [IntKind.wrap_u64]
  have h0 : 0 ≤ n % 18446744073709551616 := by omega
  rw [Int.tmod_eq_emod_of_nonneg h0]
  have h1 : 0 ≤ n % 18446744073709551616 % 7 := by omega
  have h2 : n % 18446744073709551616 % 7 < 7 := by omega
  generalize n % 18446744073709551616 % 7 = z at *
  simp only [wrap64]
  omega

/-- Where a walk page by page stands: k pages told, t records. -/
def PageAt (R : List Rec) (k t : Nat) (z : Int) (f : Bool) : Prop := (k = 0 ∧ t = 0 ∧ f = true) ∨ (0 < k ∧ k ≤ t ∧ t < R.length ∧ z = (rx R (t - 1)).id ∧ f = false)
theorem PageAt.behind {R : List Rec} {k t : Nat} {z : Int} {f : Bool} (h : PageAt R k t z f) (hs : Srt R) : behind z f R = R.drop t := by
  rcases h with ⟨rfl, rfl, rfl⟩ | ⟨h1, h2, h3, rfl, rfl⟩
  · simp [behind_first]
  · refine behind_drop (fun j hj => ?_) (by omega) (fun _ => ?_)
    · by_cases e : j = t - 1
      · rw [e]; exact Int.le_refl _
      · have := hs.at (i := j) (j := t - 1) (by omega) (by omega); omega
    · have := hs.at (i := t - 1) (j := t) (by omega) h3; omega

set_option maxRecDepth 100000 in
set_option maxHeartbeats 2000000 in
theorem gatherPages_any (v : Value) (l : List Rec) (n : Int) (w : World) (hl : Recs (Old w) w v l) (hlen : l.length ≤ 9223372036854775807) (hw : ∀ j, j < l.length → WfIn (rx l j)) :
    Calls Try.prog 5 #[v, .int .i64 n] w fun e w' => e = .returned (.bool true) ∧ Nw w w' := by
  obtain ⟨i0, hi0, hz0, hz1, hz2⟩ := info_parts infoRec
  have hfew := few_any (Old w) v l w hl hlen
  cases hf : fewB l with
  | false =>
    rw [hf] at hfew
    clear hf hl hw
    go_enter Try.func5, Try.ntmps5
    go_wp2_with (first
      | (go_at_call 12; refine hfew.mono ?_; rintro e w' ⟨rfl, hw'⟩; subst w')
      | (go_at_call 13; refine (awake_any _).mono ?_; rintro e W ⟨rfl, hnw⟩; have HNW := hid hnw; clear hnw))
    go_ret
    exact ⟨rfl, HNW.out⟩
  | true =>
    rw [hf] at hfew
    obtain ⟨hl40, hv20⟩ := (few_iff l).1 hf
    obtain ⟨a, cap, rfl, hcl, hcc⟩ := hl
    have HC := hid hcc
    have HW := hid hw
    have HV := hid hv20
    clear hf hcc hw hv20
    go_enter Try.func5, Try.ntmps5
    go_wp2_with (go_at_call 12; refine hfew.mono ?_; rintro e w' ⟨rfl, hw'⟩; subst w')
    obtain ⟨N, hN, hN1, hN7⟩ := pages_n n
    rw [hN]
    go_loopw [5, 6] (fun sv i wr => ∃ k : Nat, k ≤ l.length ∧ i = .int .i64 k ∧ Hid (Nw w wr ∧ Lst w.heap.size (Old w) wr sv (one1 (l.take k)))) (fun _ i _ => l.length - (intOf i).toNat)
    case atStart => exact ⟨0, by omega, by simp, hid ⟨Nw.refl _, Lst.nil _ _ _⟩⟩
    case round =>
      obtain ⟨k, hk, rfl, HR⟩ := hrel
      by_cases hlt : k < l.length
      · obtain ⟨b, o, rfl, hx, hcell⟩ := HC.out (by omega)
        obtain ⟨s, c0, c1, c2, hs⟩ := hcell k hlt
        have hone := one1_snoc l k hlt
        have hv1 := HV.out k hlt
        have hnwr := HR.out.1
        have e0 := hnwr.cell c0 (fun h => h)
        have e1 := hnwr.cell c1 (fun h => h)
        have e2 := hnwr.cell c2 (fun h => h)
        have hs' := hs.kp hnwr.to
        obtain ⟨sa, sc, rfl, hsl, hsc⟩ := hs
        have HS := hid hs'
        clear hcell c0 c1 c2 hsc hs' hnwr
        by_cases h1 : (rx l k).vals.length = 1
        · rw [if_pos h1] at hone
          have HONE := hid hone
          rw [h1] at e2 HS hsl
          generalize rx l k = r at *
          obtain ⟨S, hown, hn⟩ := HR.out.2
          have HO := hid hown
          have HN := hid hn
          have HNR := hid HR.out.1
          have hol : (one1 (l.take k)).length ≤ 40 := Nat.le_trans (one1_len _) (by simp; omega)
          clear hone hown hn HR
          go_wp2_with (at_builtin; refine wpList_app rfl _ _ 23 rfl w.heap.size 30 i0 _ 3 40 Try.underlying23 hi0 hz0 hz1 hz2 rfl (by decide) _ (one1 (l.take k)).length (rowsFrom (recC S) 0 (one1 (l.take k))) rfl ?qo _ 1 [.int .u64 r.id, .int .u64 r.ver, .slice sa 1 sc] rfl ?qc1 ?qc2 ?qc3 ?qc4 ?_)
          case qo => exact Built.keptS HO.out (Gr.alloc _ _).nw
          case qc1 => exact src_one wr #[.int .u64 r.id, .int .u64 r.ver, .slice sa 1 sc] 30 (by intro u hu; simp at hu; rcases hu with rfl | rfl | rfl <;> rfl)
          case qc2 => unfold maxLen; omega
          case qc3 => omega
          case qc4 => have e1 := HNR.out.size; simp; omega
          intro v' w1 hown hgrow hat
          have hat' := hat.out
          rw [← World.size_alloc wr (.cells #[.int .u64 r.id, .int .u64 r.ver, .slice sa 1 sc] 30)] at hat'
          have hlv := World.ownsRow.lt HO.out
          have hvs : Nums (fun b => Old w b ∨ Value.ownBlock u5 = some b) .u32 wr (.slice sa 1 sc) r.vals := HS.out.mono (fun b _ h => h.elim id (fun h => (hlv b h).1))
          have FIN : Hid (Nw w w1 ∧ Lst w.heap.size (Old w) w1 v' (one1 (l.take (k + 1)))) := hid ⟨Nw.grown (HNR.out.trans (Gr.alloc _ _).nw) hgrow (fun q hq => (hlv q hq).1), by
            rw [HONE.out]
            exact Lst.app (m := [r]) (S' := fun _ => .slice sa 1 sc) HN.out (Gr.alloc _ _).nw (fun j hj => by
              obtain rfl : j = 0 := by simpa using hj
              exact hvs.gr (Gr.alloc _ _)) hown hgrow hat'⟩
          clear hown hgrow hat hat' hlv hvs
          go_wp2
          go_roundw
          case rel => exact ⟨k + 1, by omega, by go_num, FIN⟩
          case measure => simp [intOf]; omega
        · rw [if_neg h1] at hone
          have HONE := hid hone
          generalize rx l k = r at *
          clear hone
          go_wp2
          go_roundw
          case rel => exact ⟨k + 1, by omega, by go_num, hid ⟨HR.out.1, by rw [HONE.out]; exact HR.out.2⟩⟩
          case measure => simp [intOf]; omega
      · have ek : k = l.length := by omega
        subst ek
        rw [List.take_length] at HR
        have hwf1 : WfL (one1 l) := (wfL_iff _).2 (fun r hr => by
          obtain ⟨j, hj, rfl⟩ := List.getElem_of_mem (one1_mem hr)
          have h1 := HW.out j hj
          have h2 := HV.out j hj
          rw [rx_get hj] at h1 h2
          exact ⟨h1.1, h1.2.1, h1.2.2, by omega⟩)
        have hol : (one1 l).length ≤ 40 := Nat.le_trans (one1_len _) hl40
        have HNR := hid HR.out.1
        have HLS := hid HR.out.2
        obtain ⟨sa, sc, rfl, hsl⟩ := HLS.out.form
        clear HR HC
        go_wp2_with fail
        refine (new_any (fun _ => False) _ anyBox _ (rngs_one wr _ rfl 1 0 0 _ (fun h => h)) (by simp [anyBox])).mono ?_
        rintro e W2 ⟨p, mb, rfl, hnw, h1, h2, h3, h4, h5, hG⟩
        have hmbw : wr.heap.size ≤ mb := by simp at h2; omega
        have g2 : Nw wr W2 := (Gr.alloc _ _).nw.trans hnw
        have hrs : Recs (fun b => b = mb) wr (.slice sa (one1 l).length sc) (one1 l) := HLS.out.recs (fun b hb e => by omega) (fun b _ hb e => by omega)
        have HRS := hid (hrs.kp g2.to)
        have HG2 : Hid (GRep (fun b => b = mb) W2 p mb anyBox []) := hid (GRep.new hG (fun b hb => Or.inl hb))
        have HN2 := hid (HNR.out.trans g2)
        have hmb2 : w.heap.size ≤ mb := Nat.le_trans HNR.out.size hmbw
        clear hnw hG g2 hrs h1 h2
        go_wp2_with fail
        refine (add_any (fun b => b = mb) p mb anyBox [] (one1 l) _ _ HG2.out rfl (fun b hb h => by omega) HRS.out hwf1 wf_anyBox (by simp [anyBox]) (by simp; omega)).mono ?_
        rintro e W3 ⟨rfl, hk3, hG3⟩
        have hsrt : Srt (gadd anyBox [] (one1 l)) := srt_gadd _ _ _ (by simp [Srt])
        have hwfR : WfL (gadd anyBox [] (one1 l)) := wfL_gadd (fun j hj => absurd hj (by simp)) hwf1
        have hRl : (gadd anyBox [] (one1 l)).length ≤ 40 := by have := gadd_length anyBox (one1 l) []; simp at this; omega
        generalize gadd anyBox [] (one1 l) = R at *
        have HN3 := hid (Nw.kpX HN2.out hk3 (fun i e => by rw [e]; exact hmb2))
        have HG3 := hid hG3
        have hmb3 : mb < W3.heap.size := Nat.lt_of_lt_of_le h4 hk3.size
        clear hk3 hG3
        go_wp2_with fail
        refine (all_any _ p mb anyBox R W3 HG3.out hsrt hwfR (by omega)).mono ?_
        rintro e W4 ⟨va, rfl, hnw4, hB4⟩
        have HF4 : Hid (FRecs W3.heap.size W4 va R) := hid (fun Y hY => hB4.recs hY)
        have HN4 := hid (HN3.out.trans hnw4)
        have HG4 := hid (HG3.out.nw hnw4)
        have hmb4 : mb < W4.heap.size := Nat.lt_of_lt_of_le hmb3 hnw4.size
        obtain ⟨aa, ac, rfl, hal, hac⟩ := HF4.out (fun _ => False) (fun _ _ h => h)
        clear hnw4 hB4 hac
        go_wp2
        go_loopw [9, 10, 11, 12] (fun tv af fi i wr => ∃ k t : Nat, ∃ z : Int, ∃ f : Bool, i = .int .i64 k ∧ af = .int .u64 z ∧ fi = .bool f ∧ k ≤ R.length ∧ t ≤ R.length ∧ Hid (PageAt R k t z f) ∧ Hid (Nw W4 wr ∧ Lst W4.heap.size (fun _ => False) wr tv (R.take t))) (fun _ _ _ i _ => R.length + 1 - (intOf i).toNat)
        case atStart => exact ⟨0, 0, 0, true, by simp, rfl, rfl, by omega, by omega, hid (Or.inl ⟨rfl, rfl, rfl⟩), hid ⟨Nw.refl _, by simpa using Lst.nil _ _ _⟩⟩
        case round =>
          obtain ⟨k, t, z, f, rfl, rfl, rfl, hk, ht, HI, HX⟩ := hrel
          have hbeh := HI.out.behind hsrt
          have HGX := hid (HG4.out.nw HX.out.1)
          have HNX := hid HX.out.1
          have HLX := hid HX.out.2
          have hkt : k = 0 ∧ t = 0 ∨ 0 < k ∧ k ≤ t ∧ t < R.length := HI.out.imp (fun h => ⟨h.1, h.2.1⟩) (fun h => ⟨h.1, h.2.1, h.2.2.1⟩)
          clear HX
          go_wp2_with fail
          refine (page_any _ p mb anyBox R z N f wr HGX.out hsrt hwfR (by omega)).mono ?_
          rw [hbeh, List.length_drop]
          rintro e Wp ⟨v, rfl, hnwp, hFp⟩
          obtain ⟨pn, hpn⟩ : ∃ pn, pn = pageN N (R.length - t) := ⟨_, rfl⟩
          have hpl : ((R.drop t).take pn).length = pn := by
            rw [List.length_take, List.length_drop]
            have := pageN_le N (R.length - t)
            omega
          have hpnN : (pn : Int) ≤ N := by rw [hpn]; unfold pageN; omega
          have hpr : pn ≤ R.length - t := by rw [hpn]; exact pageN_le _ _
          rw [← hpn] at hFp
          have HFP : Hid (FRecs wr.heap.size Wp v ((R.drop t).take pn)) := hid hFp
          have hlt9 := HLX.out.lt
          obtain ⟨va, vc, hv, hvl, hvcell⟩ := hFp (fun b => Value.ownBlock u9 = some b) (fun b hb h => by have := (hlt9 b h).2; omega)
          rw [hpl] at hv hvl hvcell
          subst hv
          have HNP := hid hnwp
          obtain ⟨S', hsrc, hS'⟩ := (HFP.out (fun b => False ∨ Value.ownBlock u9 = some b) (fun b hb h => h.elim id (fun h => by have := (hlt9 b h).2; omega))).src
          rw [hpl] at hsrc
          have HSRC := hid hsrc
          have HS' := hid hS'
          obtain ⟨S, hown9, hn9⟩ := HLX.out.nw hnwp
          have htl : (R.take t).length = t := by simp; omega
          rw [htl] at hown9
          have HO9 := hid hown9
          have HN9 := hid hn9
          have hW4s : W4.heap.size ≤ Wp.heap.size := Nat.le_trans HNX.out.size hnwp.size
          have htk : R.take t ++ (R.drop t).take pn = R.take (t + pn) := by rw [← List.take_add]
          have hmore : moreB N (R.length - t) = decide (pn < R.length - t) := by rw [moreB_iff, hpn]
          have hpn7 : (pn : Int) = N ∨ pn = R.length - t := by rw [hpn]; unfold pageN; omega
          cases hmb : moreB N (R.length - t) with
          | true =>
            rw [hmore] at hmb
            have hlt2 : pn < R.length - t := by simpa using hmb
            have hpN : (pn : Int) = N := by omega
            have hp1 : 0 < pn := by omega
            obtain ⟨q, rfl⟩ : ∃ q, pn = q + 1 := ⟨pn - 1, by omega⟩
            obtain ⟨vb, vo, rfl, hvx, hvcc⟩ := hvcell hp1
            obtain ⟨vs, cl0, _⟩ := hvcc q (by omega)
            have elast : rx ((R.drop t).take (q + 1)) q = rx R (t + q) := by
              rw [rx_get (by rw [hpl]; omega), rx_get (by omega)]
              simp only [List.getElem_take, List.getElem_drop]
            rw [elast] at cl0
            have CL := hid cl0
            clear hmb hmore hpn hvcell hvcc hsrc hS' hown9 hn9 hlt9 hFp hnwp cl0 elast hpn7
            go_wp2_with (at_builtin; refine wpList_app rfl _ _ 23 rfl W4.heap.size 30 i0 _ 3 40 Try.underlying23 hi0 hz0 hz1 hz2 rfl (by decide) _ t (rowsFrom (recC S) 0 (R.take t)) rfl HO9.out _ (q + 1) _ rfl HSRC.out ?qc2 ?qc3 hW4s ?_)
            case qc2 => unfold maxLen; omega
            case qc3 => omega
            intro v' w1 hown hgrow hat
            have c1 := (Kp.of_grownBy hgrow).cell CL.out hvx
            rw [show q = N.toNat - 1 by omega] at c1
            have HL1 : Hid (Nw W4 w1 ∧ Lst W4.heap.size (fun _ => False) w1 v' (R.take (t + (q + 1)))) := hid ⟨Nw.grown (HNX.out.trans HNP.out) hgrow (fun i hi => (World.ownsRow.lt HO9.out i hi).1), by
              rw [← htk]
              refine Lst.app (S := S) (S' := S') HN9.out (Nw.refl _) HS'.out ?_ hgrow hat.out
              rw [htl, hpl]
              exact hown⟩
            have hz : (rx R (t + (q + 1) - 1)).id = (rx R (t + q)).id := by rw [show t + (q + 1) - 1 = t + q by omega]
            have HZ := hid hz
            have htq : t + (q + 1) < R.length := by omega
            clear hown hgrow hat hvx hz HS' HN9 HSRC HO9 HFP
            go_wp2
            go_roundw
            case rel => exact ⟨k + 1, t + (q + 1), _, false, by go_num, rfl, rfl, by omega, by omega, hid (Or.inr ⟨by omega, by omega, htq, by rw [HZ.out, show N.toNat - 1 = q by omega], rfl⟩), HL1⟩
            case measure => simp [intOf]; omega
          | false =>
            rw [hmore] at hmb
            have hpe : pn = R.length - t := by
              have : ¬ pn < R.length - t := by simpa using hmb
              omega
            have HPE := hid hpe
            clear hpe hmb hmore hpn hvcell hsrc hS' hown9 hn9 hlt9 hFp hnwp hpn7
            go_wp2_with (at_builtin; refine wpList_app rfl _ _ 23 rfl W4.heap.size 30 i0 _ 3 40 Try.underlying23 hi0 hz0 hz1 hz2 rfl (by decide) _ t (rowsFrom (recC S) 0 (R.take t)) rfl HO9.out _ pn _ rfl HSRC.out ?qc2 ?qc3 hW4s ?_)
            case qc2 => unfold maxLen; omega
            case qc3 => omega
            intro v' w1 hown hgrow hat
            have HL1 : Hid (Nw W4 w1 ∧ Lst W4.heap.size (fun _ => False) w1 v' R) := hid ⟨Nw.grown (HNX.out.trans HNP.out) hgrow (fun i hi => (World.ownsRow.lt HO9.out i hi).1), by
              have e : R.take t ++ (R.drop t).take pn = R := by rw [htk, List.take_of_length_le (by have := HPE.out; omega)]
              rw [← e]
              refine Lst.app (S := S) (S' := S') HN9.out (Nw.refl _) HS'.out ?_ hgrow hat.out
              rw [htl, hpl]
              exact hown⟩
            have HRV : Hid (∀ j, j < R.length → (rx R j).vals.length ≤ 1000000000000000) := hid (fun j hj => by have := (hwfR j hj).2.2.2; omega)
            clear hown hgrow hat HS' HN9 HSRC HO9 HFP
            go_wp2_with (go_at_call 13; refine (awake_any _).mono ?_; rintro e W5 ⟨rfl, hnw5⟩; have HN5 := hid hnw5; clear hnw5)
            have hq1 : Recs (fun _ => False) W5 v' R := (HL1.out.2.recs (fun _ _ h => h.elim) (fun _ _ _ h => h)).kp (Nw.to HN5.out)
            have hq2 : Recs (fun _ => False) W5 (.slice aa R.length ac) R := (HF4.out (fun _ => False) (fun _ _ h => h)).kp (Nw.to (HL1.out.1.trans HN5.out))
            refine (records_true (fun _ => False) (fun _ => False) _ _ R _ hq1 hq2 (by omega) HRV.out).mono ?_
            rintro e W6 ⟨rfl, hg6⟩
            have HG6 := hid hg6
            clear hg6 hq1 hq2
            go_wp2
            go_ret
            exact ⟨rfl, ((HN4.out.trans HL1.out.1).trans HN5.out).trans HG6.out.nw⟩

end Go.Proofs.Ytkehhopdppampaa
