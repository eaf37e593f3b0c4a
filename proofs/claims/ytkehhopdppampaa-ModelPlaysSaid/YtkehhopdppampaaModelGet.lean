/-
  ModelGet: model.Get, Len: as the plain model.
-/
import Derived.Test.YtkehhopdppampaaModelPut
import Derived.Test.YtkehhopdppampaaMapP
namespace Go.Proofs.Ytkehhopdppampaa
set_option linter.unusedVariables false
set_option linter.unusedSimpArgs false
open Go.RowKit Go.Sort Go.Maps

theorem set3_cells {w : World} {b : Nat} {x0 x1 x2 : Value} (v0 v1 v2 : Value) (h0 : w.cell? ⟨b, 0, none⟩ = some x0) (h1 : w.cell? ⟨b, 1, none⟩ = some x1) (h2 : w.cell? ⟨b, 2, none⟩ = some x2) :
    (((w.setCell ⟨b, 0, none⟩ v0).setCell ⟨b, 1, none⟩ v1).setCell ⟨b, 2, none⟩ v2).cell? ⟨b, 0, none⟩ = some v0 ∧ (((w.setCell ⟨b, 0, none⟩ v0).setCell ⟨b, 1, none⟩ v1).setCell ⟨b, 2, none⟩ v2).cell? ⟨b, 1, none⟩ = some v1 ∧ (((w.setCell ⟨b, 0, none⟩ v0).setCell ⟨b, 1, none⟩ v1).setCell ⟨b, 2, none⟩ v2).cell? ⟨b, 2, none⟩ = some v2 := by
  have n01 : (⟨b, 0, none⟩ : Addr) ≠ ⟨b, 1, none⟩ := by simp
  have n02 : (⟨b, 0, none⟩ : Addr) ≠ ⟨b, 2, none⟩ := by simp
  have n12 : (⟨b, 1, none⟩ : Addr) ≠ ⟨b, 2, none⟩ := by simp
  refine ⟨?_, ?_, ?_⟩
  · rw [World.cell?_setCell_other _ _ _ _ n02.symm, World.cell?_setCell_other _ _ _ _ n01.symm]
    exact World.cell?_setCell_same _ _ _ h0
  · rw [World.cell?_setCell_other _ _ _ _ n12.symm]
    exact World.cell?_setCell_same _ _ _ (by rw [World.cell?_setCell_other _ _ _ _ n01]; exact h1)
  · exact World.cell?_setCell_same _ _ _ (by rw [World.cell?_setCell_other _ _ _ _ n12, World.cell?_setCell_other _ _ _ _ n02]; exact h2)

set_option maxHeartbeats 4000000 in
set_option maxRecDepth 100000 in
theorem mget_any (X : Nat → Prop) (p mb : Nat) (attrs : Int) (M : List Kn) (id : Int) (w : World) (hG : MRep X w p mb attrs M) (w0 : W64 id) (hW : WfM M) :
    Calls Try.prog 26 #[.pointer (some ⟨p, 0, none⟩), .int .u64 id] w fun e w' => ∃ v, e = .returned (.tuple #[v, .bool (kdef id M).is]) ∧ Nw w w' ∧ ∀ Y, Fresh w.heap.size Y → RecV Y w' v (kdef id M).r := by
  have hm := mixed
  have hne := hG.ne
  have HG := hid hG
  obtain ⟨L, hb, hL, ht⟩ := hG
  have hwk := wf_kdef hW w0
  obtain ⟨ls, hlv, hln⟩ := ht.look (k := id)
  have hlk : ∀ W', Nw w W' → (Instr.lookup 86 (.map (some mb)) (.int .u64 id) false).run Try.prog W' = .ok (.agg #[.int .u64 (kdef id M).ver, .bool (kdef id M).is, .int .u64 (kdef id M).r.id, .int .u64 (kdef id M).r.ver, ls]) W' := fun W' hW => by
    rw [← hlv]
    exact ((hL.kp (X := fun _ => False) hW (fun h => h)) : MapIs W' mb L).look1 Try.underlying86 zeroKn w0.1 w0.2
  have hk1 := hlk (w.alloc (.cells #[.int .u64 0, .int .u64 0, .slice none 0 0] 30)) (Gr.alloc _ _).nw
  have p1 : w.cell? ⟨p, 1, none⟩ = some (.map (some mb)) := by simp [World.cell?, hb]
  have q1 := (Gr.alloc w (.cells #[.int .u64 0, .int .u64 0, .slice none 0 0] 30)).cell p1
  have HN := hid hln
  obtain ⟨la, lc, rfl, _, _⟩ := hln
  have hcopy : ∀ W', Nw w W' → Calls Try.prog 38 #[.agg #[.int .u64 (kdef id M).r.id, .int .u64 (kdef id M).r.ver, .slice la (kdef id M).r.vals.length lc]] W' (Copied (kdef id M).r W') := fun W' hW =>
    copy_any X _ _ W' ⟨_, rfl, HN.out.kp hW.to⟩ (by have := hwk.2.2.2.2.2; omega)
  clear hlv hlk hL ht hb hwk
  generalize kdef id M = kd at *
  obtain ⟨ki, kv, kb, kr⟩ := kd
  dsimp only at *
  go_enter Try.func26, Try.ntmps26
  go_wp2_with fail
  generalize hV : (w.alloc (.cells #[.int .u64 0, .int .u64 0, .slice none 0 0] 30)).alloc _ = V
  have gV : Gr w V := by rw [← hV]; exact (Gr.alloc _ _).trans (Gr.alloc _ _)
  have hz : V.heap.size = w.heap.size + 2 := by rw [← hV]; simp
  have z0 : V.cell? ⟨w.heap.size, 0, none⟩ = some (.int .u64 0) := by rw [← hV]; simp
  have z1 : V.cell? ⟨w.heap.size, 1, none⟩ = some (.int .u64 0) := by rw [← hV]; simp
  have z2 : V.cell? ⟨w.heap.size, 2, none⟩ = some (.slice none 0 0) := by rw [← hV]; simp
  have f0 : V.frozen? ⟨w.heap.size, 0, none⟩ = false := by rw [← hV]; simp
  have f1 : V.frozen? ⟨w.heap.size, 1, none⟩ = false := by rw [← hV]; simp
  have f2 : V.frozen? ⟨w.heap.size, 2, none⟩ = false := by rw [← hV]; simp
  have d1 : V.cell? ⟨w.heap.size + 1, 1, none⟩ = some (.bool kb) := by rw [← hV]; simp
  have d2 : V.cell? ⟨w.heap.size + 1, 2, none⟩ = some (.int .u64 kr.id) := by rw [← hV]; simp
  have d3 : V.cell? ⟨w.heap.size + 1, 3, none⟩ = some (.int .u64 kr.ver) := by rw [← hV]; simp
  have d4 : V.cell? ⟨w.heap.size + 1, 4, none⟩ = some (.slice la kr.vals.length lc) := by rw [← hV]; simp
  have GV := hid gV
  clear hV gV q1 hk1
  go_region_held3 (fun w' => w'.cell? ⟨w.heap.size + 1, 1, none⟩ = some (.bool kb) ∧ w'.cell? ⟨w.heap.size + 1, 2, none⟩ = some (.int .u64 kr.id) ∧ w'.cell? ⟨w.heap.size + 1, 3, none⟩ = some (.int .u64 kr.ver) ∧ w'.cell? ⟨w.heap.size + 1, 4, none⟩ = some (.slice la kr.vals.length lc))
    (first
      | go_keep
      | exact ⟨KC.out _ _ d1, KC.out _ _ d2, KC.out _ _ d3, KC.out _ _ d4⟩
      | exact ⟨KD.out _ _ d1 (by simp), KD.out _ _ d2 (by simp), KD.out _ _ d3 (by simp), KD.out _ _ d4 (by simp)⟩)
    (first
      | (go_at_call 38; refine (hcopy _ (GV.out.trans (Gr.drew _)).nw).mono ?_; rintro e W3 ⟨v', rfl, hnw, hrec⟩; obtain ⟨s3, rfl, hs3⟩ := RecV.fresh hrec; obtain ⟨s3a, s3c, rfl, _, _⟩ := hs3 (fun _ => False) (fun _ _ h => h); have hnw2 := (Gr.drew V).nw.trans hnw; have KC : Hid (∀ (a : Addr) (v : Value), V.cell? a = some v → W3.cell? a = some v) := hid (fun a v h => hnw2.cell h (fun h => h)); have y0 := hnw2.cell z0 (fun h => h); have y1 := hnw2.cell z1 (fun h => h); have y2 := hnw2.cell z2 (fun h => h); have g0 : W3.frozen? ⟨w.heap.size, 0, none⟩ = false := (Kp.frozen hnw2 (a := ⟨w.heap.size, 0, none⟩) (by show w.heap.size < V.heap.size; omega) (fun h => h)).trans f0; have g1 : W3.frozen? ⟨w.heap.size, 1, none⟩ = false := (Kp.frozen hnw2 (a := ⟨w.heap.size, 1, none⟩) (by show w.heap.size < V.heap.size; omega) (fun h => h)).trans f1; have g2 : W3.frozen? ⟨w.heap.size, 2, none⟩ = false := (Kp.frozen hnw2 (a := ⟨w.heap.size, 2, none⟩) (by show w.heap.size < V.heap.size; omega) (fun h => h)).trans f2; have KD : Hid (∀ (a : Addr) (v : Value), V.cell? a = some v → a.block ≠ w.heap.size → (((W3.setCell ⟨w.heap.size, 0, none⟩ (.int .u64 kr.id)).setCell ⟨w.heap.size, 1, none⟩ (.int .u64 kr.ver)).setCell ⟨w.heap.size, 2, none⟩ (.slice s3a kr.vals.length s3c)).cell? a = some v) := hid (fun a v h hb => by
          have hk := (((Kp.refl (fun b => b = w.heap.size) W3).setCell (p := ⟨w.heap.size, 0, none⟩) rfl (.int .u64 kr.id)).setCell (p := ⟨w.heap.size, 1, none⟩) rfl (.int .u64 kr.ver)).setCell (p := ⟨w.heap.size, 2, none⟩) rfl (.slice s3a kr.vals.length s3c)
          exact hk.cell (hnw2.cell h (fun h => h)) hb)))
  obtain ⟨r0, r1, r2⟩ := set3_cells (.int .u64 kr.id) (.int .u64 kr.ver) (.slice s3a kr.vals.length s3c) y0 y1 y2
  have hk5 : Nw w (((W3.setCell ⟨w.heap.size, 0, none⟩ (.int .u64 kr.id)).setCell ⟨w.heap.size, 1, none⟩ (.int .u64 kr.ver)).setCell ⟨w.heap.size, 2, none⟩ (.slice s3a kr.vals.length s3c)) := Nw.setCell (Nw.setCell (Nw.setCell (GV.out.nw.trans hnw2) (p := ⟨w.heap.size, 0, none⟩) (Nat.le_refl _) _) (p := ⟨w.heap.size, 1, none⟩) (Nat.le_refl _) _) (p := ⟨w.heap.size, 2, none⟩) (Nat.le_refl _) _
  have hk6 : Kp (fun b => b = w.heap.size) W3 (((W3.setCell ⟨w.heap.size, 0, none⟩ (.int .u64 kr.id)).setCell ⟨w.heap.size, 1, none⟩ (.int .u64 kr.ver)).setCell ⟨w.heap.size, 2, none⟩ (.slice s3a kr.vals.length s3c)) := (((Kp.refl (fun b => b = w.heap.size) W3).setCell (p := ⟨w.heap.size, 0, none⟩) rfl (.int .u64 kr.id)).setCell (p := ⟨w.heap.size, 1, none⟩) rfl (.int .u64 kr.ver)).setCell (p := ⟨w.heap.size, 2, none⟩) rfl _
  have HS : Hid (∀ Y, Fresh w.heap.size Y → Nums Y .u32 (((W3.setCell ⟨w.heap.size, 0, none⟩ (.int .u64 kr.id)).setCell ⟨w.heap.size, 1, none⟩ (.int .u64 kr.ver)).setCell ⟨w.heap.size, 2, none⟩ (.slice s3a kr.vals.length s3c)) (.slice s3a kr.vals.length s3c) kr.vals) := hid (fun Y hY => ((hs3 (fun b => Y b ∨ b = w.heap.size) (fun b hb e => by
      have e3 : V.drew.heap.size = V.heap.size := rfl
      rcases e with e | e
      · exact hY b (by omega) e
      · omega)).kp (hk6.mono (fun b _ e => Or.inr e))).mono (fun b _ e => Or.inl e))
  have HK5 := hid hk5
  clear hk5 hk6 KC KD y0 y1 y2 g0 g1 g2 hnw hnw2 hrec hs3 hcopy z0 z1 z2 f0 f1 f2 d1 d2 d3 d4
  generalize ((W3.setCell ⟨w.heap.size, 0, none⟩ (.int .u64 kr.id)).setCell ⟨w.heap.size, 1, none⟩ (.int .u64 kr.ver)).setCell ⟨w.heap.size, 2, none⟩ (.slice s3a kr.vals.length s3c) = W4 at *
  go_wp2
  refine bodyPost_ret (v := .tuple #[.agg #[.int .u64 kr.id, .int .u64 kr.ver, .slice s3a kr.vals.length s3c], .bool kb]) (by simp [results, Try.results26, go_sem, r0, r1, r2]) rfl ⟨_, rfl, HK5.out, fun Y hY => ⟨_, rfl, HS.out Y hY⟩⟩

/-! ### Len -/
theorem count_del {L : List (Int × Value)} (hn : (L.map (·.1)).Nodup) {x : Int} {v : Value} (hm : (x, v) ∈ L) (q : Int → Bool) : (L.filter fun p => q p.1).length = ((pdel x L).filter fun p => q p.1).length + (q x).toNat := by
  induction L with
  | nil => cases hm
  | cons p L ih =>
    rw [List.map_cons, List.nodup_cons] at hn
    rcases List.mem_cons.1 hm with e | m
    · have e1 : p.1 = x := by rw [← e]
      have hd : pdel x (p :: L) = L := by
        unfold pdel
        rw [List.filter_cons]
        simp only [e1, ne_eq, not_true_eq_false, decide_false, Bool.false_eq_true, if_false]
        rw [List.filter_eq_self]
        intro y hy
        simp only [decide_eq_true_eq]
        intro h
        exact hn.1 (by rw [e1, ← h]; exact List.mem_map_of_mem hy)
      rw [hd, List.filter_cons, e1]
      cases q x <;> simp
    · have e1 : p.1 ≠ x := fun h => hn.1 (by rw [h]; exact List.mem_map_of_mem (f := (·.1)) m)
      have hd : pdel x (p :: L) = p :: pdel x L := by
        unfold pdel
        rw [List.filter_cons]
        simp [e1]
      rw [hd, List.filter_cons, List.filter_cons]
      have := ih hn.2 m
      cases q p.1 <;> simp [this]; omega
theorem KTied.mem {X : Nat → Prop} {w : World} {x : Int} {v : Value} : ∀ {L : List (Int × Value)} {M : List Kn}, KTied X w L M → KSrt M → (x, v) ∈ L → KnV X w v (kdef x M)
  | p :: L, y :: M, h, hs, hm => by
    obtain ⟨h1, h2⟩ := List.pairwise_cons.1 hs
    rcases List.mem_cons.1 hm with e | m
    · have e1 : x = y.id := by rw [← h.1, ← e]
      have : kdef x (y :: M) = y := by simp [kdef, kfind, e1]
      rw [this]
      have e2 : v = p.2 := by rw [← e]
      rw [e2]
      exact h.2.1
    · have hx : x ∈ M.map (·.id) := by rw [← h.2.2.keys]; exact List.mem_map_of_mem (f := (·.1)) m
      obtain ⟨z, hz, ez⟩ := List.mem_map.1 hx
      have hne : y.id ≠ x := by have := h1 z hz; omega
      have : kdef x (y :: M) = kdef x M := by simp [kdef, kfind, hne]
      rw [this]
      exact KTied.mem h.2.2 h2 m
theorem KSrt.nodup {M : List Kn} (h : KSrt M) : (M.map (·.id)).Nodup := by
  rw [List.nodup_iff_pairwise_ne, List.pairwise_map]
  exact List.Pairwise.imp (fun h => by omega) h
theorem live_count {X : Nat → Prop} {w : World} {L : List (Int × Value)} {M : List Kn} (h : KTied X w L M) (hs : KSrt M) : (L.filter fun p => (kdef p.1 M).is).length = (mlive M).length := by
  have e1 : (L.filter fun p => (kdef p.1 M).is).length = ((L.map (·.1)).filter fun k => (kdef k M).is).length := by rw [List.filter_map, List.length_map]; rfl
  have e2 : (mlive M) = M.filter fun x => (kdef x.id M).is := by
    unfold mlive
    apply List.filter_congr
    intro x hx
    unfold kdef
    rw [hs.kfind hx]
    rfl
  rw [e1, h.keys, List.filter_map, List.length_map, e2]
  rfl

set_option maxHeartbeats 4000000 in
set_option maxRecDepth 100000 in
theorem mlen_any (X : Nat → Prop) (p mb : Nat) (attrs : Int) (M : List Kn) (w : World) (hG : MRep X w p mb attrs M) (hS : KSrt M) (hW : WfM M) (hM : M.length ≤ 1000000000) :
    Calls Try.prog 32 #[.pointer (some ⟨p, 0, none⟩)] w fun e w' => e = .returned (.int .i64 (mlive M).length) ∧ Nw w w' := by
  obtain ⟨L, hb, hL, ht⟩ := hG
  have p1 : w.cell? ⟨p, 1, none⟩ = some (.map (some mb)) := by simp [World.cell?, hb]
  have hnd : (L.map (·.1)).Nodup := by rw [ht.keys]; exact hS.nodup
  have hwf : ∀ q ∈ L, (Lit.int .u64 q.1).wf = true := fun q hq => by
    have hx : q.1 ∈ M.map (·.id) := by rw [← ht.keys]; exact List.mem_map_of_mem (f := (·.1)) hq
    obtain ⟨z, hz, ez⟩ := List.mem_map.1 hx
    rw [← ez]
    exact wfU (hW z hz).1.1 (hW z hz).1.2
  have hP := hL.toP hnd hwf
  have hlc := live_count ht hS
  have hlm : (mlive M).length ≤ 1000000000 := by have := List.length_filter_le (·.is) M; unfold mlive; omega
  have HP := hid hP
  have HLC := hid hlc
  have HT := hid ht
  have HS := hid hS
  have HND := hid hnd
  clear hP hlc hL ht hb hnd hwf
  go_enter Try.func32, Try.ntmps32
  go_wp2_with (refine wpList_rangeP (K := keyU64) _ rfl (.tmp 11) 86 rfl 91 Try.underlying86 mb L rfl HP.out ?_; intro w1 hr1 hn1 hz1)
  have HR1 := hid hr1
  have HN1 := hid hn1
  have HLC1 := hid (show 0 + (L.filter fun p => (kdef p.1 M).is).length = (mlive M).length by rw [HLC.out]; omega)
  clear hr1 hn1 hz1
  generalize hrr0 : w.heap.size = rr at HR1 ⊢
  have HRR : Hid (w.heap.size ≤ rr) := hid (by omega)
  clear hrr0
  go_frame
  go_loopw [3] (fun nv wr => ∃ (rest : List (Int × Value)) (cnt k : Nat), nv = .int .i64 k ∧ k ≤ 1000000000 ∧ Hid (k + (rest.filter fun p => (kdef p.1 M).is).length = (mlive M).length) ∧ Hid (Nw w wr) ∧ Hid (RangeP keyU64 wr mb rr L rest cnt)) (fun _ wr => wr.rangeLeft mb rr)
  case atStart => exact ⟨L, L.length, 0, by simp, by omega, HLC1, HN1, HR1⟩
  case round =>
    obtain ⟨rest, cnt, k, rfl, hk, HC, HN, HR⟩ := hrel
    go_wp2_with (refine wpList_nextP (K := keyU64) _ rfl (.tmp 12) rfl mb rr L rest cnt rfl HR.out ?_ ?_)
    · intro h0
      subst h0
      have HC2 := hid (show (k : Int) = (mlive M).length by have := HC.out; simp at this; omega)
      go_wp2
      go_ret
      exact ⟨ret_int HC2.out, HN.out⟩
    · intro x v w2 cnt2 hm hr2 hlt hk2 hz2 hen
      have hxL : (x, v) ∈ L := HR.out.sub.subset hm
      obtain ⟨s, rfl, hns⟩ := HT.out.mem HS.out hxL
      have hcd := count_del (HND.out.sublist (HR.out.sub.map _)) hm (fun k => (kdef k M).is)
      obtain ⟨sa, sc, rfl, _, _⟩ := hns
      have HCD := hid hcd
      have hms := HR.out.measure
      have HMS := hid hms
      have hms2 := hr2.measure
      have HMS2 := hid hms2
      have hrr : w.heap.size ≤ rr := HRR.out
      have HN2 := hid (Nw.kpX HN.out hk2 (fun i e => by rw [e]; exact hrr))
      have HR2 := hid hr2
      have HE := hen
      have hlive : (mlive M).length ≤ 1000000000 := hlm
      clear hcd hms hms2 hr2 hk2 hz2 hm hxL
      have hkt := HC.out
      have hle : (pdel x rest |>.filter fun p => (kdef p.1 M).is).length + (kdef x M).is.toNat + k = (mlive M).length := by have := HCD.out; omega
      have HLE := hid hle
      have hkb : (kdef x M).is = true → k + 1 ≤ 1000000000 := fun h => by rw [h] at hle; simp at hle; omega
      have HKB := hid hkb
      clear hkt hle hkb
      generalize hkd : kdef x M = kd at *
      have HKD := hid hkd
      clear hkd
      obtain ⟨ki, kv, kb, kr⟩ := kd
      dsimp only at *
      cases kb with
      | false =>
        go_wp2
        go_roundw
        case rel => exact ⟨pdel x rest, cnt2, k, rfl, by omega, hid (by have := HLE.out; simp at this; omega), hid (HN2.out.trans (Gr.alloc _ _).nw), hid (HR2.out.kp (Gr.alloc w2 _).nw (fun h => h) (fun h => h))⟩
        case measure => rw [HMS.out, (HR2.out.kp (Gr.alloc w2 _).nw (fun h => h) (fun h => h)).measure]; exact hlt
      | true =>
        have hk1 := HKB.out rfl
        go_wp2
        go_roundw
        case rel => exact ⟨pdel x rest, cnt2, k + 1, by go_num, by omega, hid (by have := HLE.out; simp at this; omega), hid (HN2.out.trans (Gr.alloc _ _).nw), hid (HR2.out.kp (Gr.alloc w2 _).nw (fun h => h) (fun h => h))⟩
        case measure => rw [HMS.out, (HR2.out.kp (Gr.alloc w2 _).nw (fun h => h) (fun h => h)).measure]; exact hlt

end Go.Proofs.Ytkehhopdppampaa
