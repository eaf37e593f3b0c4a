/-
  ModelFind: model.Find: as the plain model.
-/
import Derived.Test.YtkehhopdppampaaModelGet
namespace Go.Proofs.Ytkehhopdppampaa
set_option linter.unusedVariables false
set_option linter.unusedSimpArgs false
open Go.RowKit Go.Sort Go.Maps

def mhit (b : List Rng) (x : Kn) : Bool := x.is && mB b x.r.vals
theorem KSrt.at {M : List Kn} (h : KSrt M) {i j : Nat} (hij : i < j) (hj : j < M.length) : (kx M i).id < (kx M j).id := by
  rw [kx_get (by omega), kx_get hj]
  exact List.pairwise_iff_getElem.1 h i j (by omega) hj hij
theorem KSrt.keys {M : List Kn} (h : KSrt M) {ss : List Int} (hp : ss.Perm (M.map (·.id))) : ss.mergeSort (fun x y => decide (x ≤ y)) = M.map (·.id) := by
  have h1 : (M.map (·.id)).Pairwise (fun a b => decide (a ≤ b) = true) := by
    rw [List.pairwise_map]
    exact List.Pairwise.imp (fun {a b} h => by simp; omega) h
  have hp2 : (ss.mergeSort (fun x y => decide (x ≤ y))).Perm (M.map (·.id)) := (List.mergeSort_perm ss _).trans hp
  refine List.Perm.eq_of_pairwise (le := fun a b => decide (a ≤ b) = true) (fun a b _ _ h1 h2 => ?_) (List.pairwise_mergeSort (fun a b c h1 h2 => ?_) (fun a b => ?_) ss) h1 hp2
  · simp at h1 h2; omega
  · simp at h1 h2 ⊢; omega
  · simp; omega
theorem hits_snoc (b : List Rng) (M : List Kn) (k : Nat) (h : k < M.length) : mfindL (M.take (k + 1)) b = if mhit b (kx M k) then mfindL (M.take k) b ++ [(kx M k).r] else mfindL (M.take k) b := by
  unfold mfindL
  rw [List.take_succ_eq_append_getElem h, List.filter_append, List.map_append, kx_get h]
  cases e : mhit b M[k] <;> unfold mhit at e <;> simp [e]

def mfindB (attrs : Int) (M : List Kn) (b : List Rng) : List Rec := if rightBox attrs b then mfindL M b else []

set_option maxRecDepth 100000 in
set_option maxHeartbeats 2000000 in
theorem mfind_any (X : Nat → Prop) (p mb : Nat) (attrs : Int) (M : List Kn) (vb : Value) (b : List Rng) (w : World) (hG : MRep X w p mb attrs M) (hB : Rngs X w vb b) (hS : KSrt M) (hW : WfM M) (wb : WfB b) (hM : M.length ≤ 1000000000) (hbl : b.length ≤ 1000000000000) :
    Calls Try.prog 25 #[.pointer (some ⟨p, 0, none⟩), vb] w fun e w' => ∃ v, e = .returned v ∧ Nw w w' ∧ FRecs w.heap.size w' v (mfindB attrs M b) := by
  obtain ⟨L, hb, hL, ht⟩ := hG
  obtain ⟨i0, hi0, hz0, hz1, hz2⟩ := info_parts infoRec
  have hbr := boxRight_any X attrs vb b w hB (by omega)
  have HB := hid hB
  obtain ⟨ba, bc, rfl, hbc, _⟩ := hB
  have hlen := ht.length
  have hkeys := ht.keys
  have p0 : w.cell? ⟨p, 0, none⟩ = some (.int .i64 attrs) := by simp [World.cell?, hb]
  have p1 : w.cell? ⟨p, 1, none⟩ = some (.map (some mb)) := by simp [World.cell?, hb]
  have HL := hid hL
  have HT := hid ht
  have HS := hid hS
  have HW := hid hW
  unfold mfindB
  clear hL ht hb hW
  cases hrb : rightBox attrs b with
  | false =>
    rw [hrb] at hbr
    clear hrb
    go_enter Try.func25, Try.ntmps25
    go_wp2_with (go_at_call 46; refine hbr.mono ?_; rintro e W1 ⟨rfl, hg⟩; have HG := hid hg; clear hg)
    go_ret
    exact ⟨_, rfl, HG.out.nw, fun Y hY => ⟨none, 0, rfl, by simp, fun h => absurd h (by simp)⟩⟩
  | true =>
    rw [hrb] at hbr
    rw [if_pos rfl]
    clear hrb
    go_enter Try.func25, Try.ntmps25
    go_wp2_with fail
    refine hbr.mono ?_
    rintro e W1 ⟨rfl, hg⟩
    have p1 := hg.cell p1
    have HG1 := hid hg
    clear hg hbr
    go_wp2_with (first
      | (go_at_call 47; refine (keys_B _ _).mono ?_; rintro e w' ⟨rfl, rfl⟩)
      | (go_at_call 40; refine (sorted_B mb L.length (kvD L) W1.heap.size _ ?h1 ?h2 ((HL.out.kp (HG1.out.trans (Gr.alloc _ _)).nw (fun h => h)) : MapIs _ mb L) ?h3).mono ?_))
    case h1 => simp
    case h2 => simp
    case h3 => rw [size_kv]; omega
    rintro e W ⟨v, ss, rfl, hperm, hown, hnil, hbel⟩
    rw [keys_kv, hkeys] at hperm
    have hl2 : ss.length = M.length := by have := hperm.length_eq; simpa using this
    rw [HS.out.keys hperm, hl2] at hown
    have g0 : Nw w W := (HG1.out.trans (Gr.alloc _ _)).nw.trans (nw_of_below hbel)
    have p1' := (nw_of_below hbel).cell ((Gr.alloc W1 (.cells #[.map (some mb)] 86)).cell p1) (fun h => h)
    obtain ⟨a, cap, rfl, hcl, hcc⟩ := own_cells (X := fun _ => False) hown (fun _ _ h => h)
    have HG := hid g0
    clear hown hnil hbel hperm p1 p0 hl2 HG1
    go_wp2
    go_loopw [5, 27] (fun lv i wr => ∃ k : Nat, k ≤ M.length ∧ i = .int .i64 k ∧ Hid (Nw W wr ∧ Built W.heap.size wr lv (mfindL (M.take k) b))) (fun _ i _ => M.length - (intOf i).toNat)
    case atStart => exact ⟨0, by omega, by simp, hid ⟨Nw.refl _, Built.nil _ _⟩⟩
    case round =>
      obtain ⟨k, hk, rfl, HR⟩ := hrel
      by_cases hlt : k < M.length
      · obtain ⟨sb, rfl, _, hc⟩ := hcc (by omega)
        have c0 := hc k (.int .u64 (kx M k).id) (by rw [kx_get hlt]; simp [hlt, encU])
        obtain ⟨g1, S, hown, hnums⟩ := HR.out
        have HN := hid hnums
        have c1 := g1.cell c0 (fun h => h)
        have p2 := g1.cell p1' (fun h => h)
        have hwx := HW.out (kx M k) (by rw [kx_get hlt]; exact List.getElem_mem hlt)
        have hkd : kdef (kx M k).id M = kx M k := by
          have := HS.out.kfind (x := kx M k) (by rw [kx_get hlt]; exact List.getElem_mem hlt)
          unfold kdef
          rw [this]
          rfl
        obtain ⟨s, hlv, hln⟩ := HT.out.look (k := (kx M k).id)
        rw [hkd] at hlv hln
        have hlk : (Instr.lookup 86 (.map (some mb)) (.int .u64 (kx M k).id) false).run Try.prog wr = .ok (.agg #[.int .u64 (kx M k).ver, .bool (kx M k).is, .int .u64 (kx M k).r.id, .int .u64 (kx M k).r.ver, s]) wr := by
          rw [← hlv]
          exact ((HL.out.kp (HG.out.trans g1) (fun h => h)) : MapIs wr mb L).look1 Try.underlying86 zeroKn hwx.1.1 hwx.1.2
        have HV := hid hln
        obtain ⟨sa, sc, rfl, hsl, _⟩ := hln
        have HO := hid hown
        have HG1 := hid g1
        have hsn := hid (hits_snoc b M k hlt)
        have hln2 : (mfindL (M.take k) b).length ≤ M.length := by
          unfold mfindL
          rw [List.length_map]
          exact Nat.le_trans (List.length_filter_le _ _) (by simp; omega)
        have HWX := hid hwx
        have HRR := HR
        clear hc hcc c0 p1' hlv hkd hown g1 HR hnums hwx
        generalize hrk : kx M k = x at *
        clear hrk
        generalize hfs : mfindL (M.take k) b = fs at *
        clear hfs
        obtain ⟨xi, xv, xb, xr⟩ := x
        dsimp only at *
        cases xb with
        | false =>
          have hmh : mhit b ⟨xi, xv, false, xr⟩ = false := rfl
          rw [hmh] at hsn
          go_wp2_with fail
          go_roundw
          case rel => exact ⟨k + 1, by omega, by go_num, by have h := hsn.out; simp only [Bool.false_eq_true, if_false] at h; rw [h]; exact hid ⟨HRR.out.1.trans (Gr.alloc _ _).nw, ⟨S, Built.keptS HO.out (Gr.alloc _ _).nw, fun j hj Y hY => (HN.out j hj Y hY).gr (Gr.alloc _ _)⟩⟩⟩
          case measure => simp [intOf]; omega
        | true =>
          have hmh : mhit b ⟨xi, xv, true, xr⟩ = mB b xr.vals := by simp [mhit]
          rw [hmh] at hsn
          have hmatch : ∀ W', Nw wr W' → Calls Try.prog 37 #[.slice ba b.length bc, .slice sa xr.vals.length sc] W' fun e w' => e = .returned (.bool (mB b xr.vals)) ∧ Gr W' w' := fun W' hW =>
            match_any X _ _ b xr.vals W' (HB.out.kp (Nw.to ((HG.out.trans HG1.out).trans hW))) (HV.out.kp (Nw.to ((HG.out.trans HG1.out).trans hW))) (by omega) (by have h : xr.vals.length ≤ 1000 := HWX.out.2.2.2.2.2; omega) wb HWX.out.2.2.2.2.1
          generalize mB b xr.vals = mt at *
          cases mt with
          | false =>
            go_wp2_with (go_at_call 37; refine (hmatch _ (Gr.alloc _ _).nw).mono ?_; rintro e W2 ⟨rfl, hg2⟩; have HG2 := hid ((Gr.alloc wr _).trans hg2); clear hg2)
            go_roundw
            case rel => exact ⟨k + 1, by omega, by go_num, by have h := hsn.out; simp only [Bool.false_eq_true, if_false] at h; rw [h]; exact hid ⟨HRR.out.1.trans HG2.out.nw, ⟨S, Built.keptS HO.out HG2.out.nw, fun j hj Y hY => (HN.out j hj Y hY).gr HG2.out⟩⟩⟩
            case measure => simp [intOf]; omega
          | true =>
            go_wp2_with fail
            generalize hV : wr.alloc (.cells #[.int .u64 xv, .bool true, .int .u64 xr.id, .int .u64 xr.ver, .slice sa xr.vals.length sc] 91) = V
            have gV : Gr wr V := by rw [← hV]; exact Gr.alloc _ _
            have d2 : V.cell? ⟨wr.heap.size, 2, none⟩ = some (.int .u64 xr.id) := by rw [← hV]; simp
            have d3 : V.cell? ⟨wr.heap.size, 3, none⟩ = some (.int .u64 xr.ver) := by rw [← hV]; simp
            have d4 : V.cell? ⟨wr.heap.size, 4, none⟩ = some (.slice sa xr.vals.length sc) := by rw [← hV]; simp
            have GV := hid gV
            clear hV gV
            refine (hmatch _ GV.out.nw).mono ?_
            rintro e W2 ⟨rfl, hg2⟩
            have d2 := hg2.cell d2
            have d3 := hg2.cell d3
            have d4 := hg2.cell d4
            have HG2 := hid (GV.out.trans hg2)
            clear hg2 hmatch
            go_wp2_with fail
            refine (copy_any X _ xr _ ⟨_, rfl, HV.out.kp (Nw.to ((HG.out.trans HG1.out).trans HG2.out.nw))⟩ (by have h : xr.vals.length ≤ 1000 := HWX.out.2.2.2.2.2; omega)).mono ?_
            rintro e W3 ⟨v2, rfl, hnw, hrec⟩
            obtain ⟨s2, rfl, hs2⟩ := RecV.fresh hrec
            have HS2 := hid hs2
            have HNW := hid (HG2.out.nw.trans hnw)
            have HSZ := hid hnw.size
            clear hrec hs2 hnw
            go_wp2_with (at_builtin; refine wpList_app rfl _ _ 23 rfl W.heap.size 30 i0 _ 3 40 Try.underlying23 hi0 hz0 hz1 hz2 rfl (by decide) _ fs.length (rowsFrom (recC S) 0 fs) rfl ?qo _ 1 [.int .u64 xr.id, .int .u64 xr.ver, s2] rfl ?qc1 ?qc2 ?qc3 ?qc4 ?_)
            case qo => exact Built.keptS HO.out ((HNW.out.trans (Gr.alloc _ _).nw))
            case qc1 => exact src_one W3 #[.int .u64 xr.id, .int .u64 xr.ver, s2] 30 (by have := HS2.out (fun _ => False) (fun _ _ h => h); obtain ⟨_, _, e, _⟩ := this; intro u hu; simp at hu; rcases hu with rfl | rfl | rfl <;> first | rfl | (rw [e]; rfl))
            case qc2 => unfold maxLen; omega
            case qc3 => omega
            case qc4 => have e1 := HG1.out.size; have e2 := HNW.out.size; simp; omega
            intro v' w1 hown hgrow hat
            have hat' := hat.out
            rw [← World.size_alloc W3 (.cells #[.int .u64 xr.id, .int .u64 xr.ver, s2] 30)] at hat'
            have hlv : ∀ q, Value.ownBlock u5 = some q → W.heap.size ≤ q := fun q hq => (World.ownsRow.lt HO.out q hq).1
            have FIN : Hid (Nw W w1 ∧ Built W.heap.size w1 v' (mfindL (M.take (k + 1)) b)) := hid (by
              have h1 : Nw W w1 := Nw.grown ((HG1.out.trans HNW.out).trans (Gr.alloc _ _).nw) hgrow hlv
              refine ⟨h1, ?_⟩
              have h := hsn.out
              simp only [if_true] at h
              rw [h]
              refine Built.snoc (S := S) (s := s2) ?_ ?_ hown
              · intro j hj Y hY
                have h0 := HN.out j hj Y hY
                exact Nums.appended h0 (HNW.out.trans (Gr.alloc _ _).nw) hgrow hat'
              · intro Y hY
                exact Nums.appended ((HS2.out (fun b => Y b ∨ Value.ownBlock u5 = some b) (fun b hb h => h.elim (hY b (by have := HG1.out.size; have := HG2.out.size; omega)) (fun h => by have h1 := (World.ownsRow.lt HO.out b h).2; have := HG2.out.size; omega)))) (Gr.alloc _ _).nw hgrow hat')
            clear hown hgrow hlv hat hat'
            go_wp2
            go_roundw
            case rel => exact ⟨k + 1, by omega, by go_num, FIN⟩
            case measure => simp [intOf]; omega
      · have e : k = M.length := by omega
        subst e
        rw [List.take_length] at HR
        clear hcc p1'
        go_wp2
        go_ret
        exact ⟨_, rfl, HG.out.trans HR.out.1, fun Y hY => (HR.out.2.mono HG.out.size).recs hY⟩

end Go.Proofs.Ytkehhopdppampaa
