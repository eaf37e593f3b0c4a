/-
  Finds: petasoslaw24.ModelFinds, walked: it answers true and turns nothing that was there.
-/
import Derived.Test.YtkehhopdppampaaModelLaw
import Derived.Test.YtkehhopdppampaaOpens
namespace Go.Proofs.Ytkehhopdppampaa
set_option linter.unusedVariables false
set_option linter.unusedSimpArgs false
open Go.RowKit Go.Sort Go.Maps

def fRec (r : Rec) : Rec := ⟨r.id % 50, 1 + r.ver % 9, [r.id / 8 % 4294967296, r.ver % 4294967296]⟩
theorem nums_two {Y : Nat → Prop} (w : World) (bb : Nat) (hbb : bb = w.heap.size) (k : IntKind) (x y : Int) (t : TypeId) (h : ¬ Y w.heap.size) : Nums Y k (w.alloc (.cells #[.int k x, .int k y] t)) (.slice (some ⟨bb, 0, none⟩) 2 2) [x, y] := by
  subst hbb
  refine ⟨_, _, rfl, by simp, fun _ => ⟨_, _, rfl, h, fun j hj => ?_⟩⟩
  rcases j with _ | _ | j
  · simp [gx]
  · simp [gx]
  · simp only [List.length_cons, List.length_nil] at hj; omega
theorem wf_fRec {r : Rec} (h : WfIn r) : WfIn (fRec r) := by
  obtain ⟨⟨a, b⟩, ⟨c, d⟩, _⟩ := h
  refine ⟨⟨by show 0 ≤ r.id % 50; omega, by show r.id % 50 < _; omega⟩, ⟨by show 0 ≤ 1 + r.ver % 9; omega, by show 1 + r.ver % 9 < _; omega⟩, fun j hj => ?_⟩
  rcases j with _ | _ | j
  · show W32 (r.id / 8 % 4294967296); exact ⟨by omega, by omega⟩
  · show W32 (r.ver % 4294967296); exact ⟨by omega, by omega⟩
  · simp only [fRec, List.length_cons, List.length_nil] at hj; omega

/-- How many of them have an id below i. -/
def fcnt (H : List Rec) (i : Nat) : Nat := (H.filter fun r => decide (r.id < (i : Int))).length
theorem fcnt_cons (h : Rec) (T : List Rec) (i : Nat) : fcnt (h :: T) i = fcnt T i + (decide (h.id < (i : Int))).toNat := by
  unfold fcnt
  rw [List.filter_cons]
  cases decide (h.id < (i : Int)) <;> simp
theorem fcnt_at {i : Nat} : ∀ {H : List Rec}, Srt H → ((fcnt H i < H.length ∧ (rx H (fcnt H i)).id = (i : Int)) ↔ ∃ r ∈ H, r.id = (i : Int)) ∧ fcnt H (i + 1) = fcnt H i + (H.any fun r => decide (r.id = (i : Int))).toNat
  | [], _ => ⟨⟨fun h => absurd h.1 (by simp [fcnt]), fun ⟨r, hr, _⟩ => nomatch hr⟩, by simp [fcnt]⟩
  | h :: T, hs => by
    obtain ⟨h1, h2⟩ := List.pairwise_cons.1 hs
    obtain ⟨ih1, ih2⟩ := fcnt_at (i := i) h2
    by_cases hlt : h.id < (i : Int)
    · have e : fcnt (h :: T) i = fcnt T i + 1 := by rw [fcnt_cons]; simp [hlt]
      have e' : fcnt (h :: T) (i + 1) = fcnt T (i + 1) + 1 := by rw [fcnt_cons, decide_eq_true (show h.id < ((i + 1 : Nat) : Int) by omega)]; rfl
      have ex : rx (h :: T) (fcnt T i + 1) = rx T (fcnt T i) := by simp [rx]
      have ne : h.id ≠ (i : Int) := by omega
      refine ⟨?_, ?_⟩
      · rw [e, ex]
        constructor
        · rintro ⟨a, b⟩
          obtain ⟨r, hr, he⟩ := ih1.1 ⟨by simpa using a, b⟩
          exact ⟨r, List.mem_cons_of_mem _ hr, he⟩
        · rintro ⟨r, hr, he⟩
          rcases List.mem_cons.1 hr with rfl | hr
          · exact absurd he ne
          · obtain ⟨a, b⟩ := ih1.2 ⟨r, hr, he⟩
            exact ⟨by simpa using a, b⟩
      · rw [e, e', ih2, List.any_cons]
        simp [ne]
        omega
    · have hT : ∀ r ∈ T, (i : Int) < r.id := fun r hr => by have := h1 r hr; omega
      have e0 : fcnt T i = 0 := by
        unfold fcnt
        rw [List.length_eq_zero_iff, List.filter_eq_nil_iff]
        intro r hr
        have := hT r hr
        simp; omega
      have e1 : fcnt T (i + 1) = 0 := by
        unfold fcnt
        rw [List.length_eq_zero_iff, List.filter_eq_nil_iff]
        intro r hr
        have := hT r hr
        simp; omega
      have e : fcnt (h :: T) i = 0 := by
        have : fcnt (h :: T) i = fcnt T i := by rw [fcnt_cons]; simp [hlt]
        omega
      have anyT : (T.any fun r => decide (r.id = (i : Int))) = false := by
        rw [List.any_eq_false]
        intro r hr
        have := hT r hr
        simp; omega
      have ex : rx (h :: T) 0 = h := by simp [rx]
      refine ⟨?_, ?_⟩
      · rw [e, ex]
        constructor
        · rintro ⟨_, b⟩
          exact ⟨h, List.mem_cons_self .., b⟩
        · rintro ⟨r, hr, he⟩
          rcases List.mem_cons.1 hr with rfl | hr
          · exact ⟨by simp, he⟩
          · have := hT r hr; omega
      · rw [e, List.any_cons, anyT]
        by_cases he : h.id = (i : Int)
        · have : fcnt (h :: T) (i + 1) = fcnt T (i + 1) + 1 := by rw [fcnt_cons, decide_eq_true (show h.id < ((i + 1 : Nat) : Int) by omega)]; rfl
          simp [this, e1, he]
        · have : fcnt (h :: T) (i + 1) = fcnt T (i + 1) := by rw [fcnt_cons, decide_eq_false (show ¬ h.id < ((i + 1 : Nat) : Int) by omega)]; rfl
          simp [this, e1, he]
theorem finds_law {M : List Kn} (hs : KSrt M) (hk : ∀ x ∈ M, x.is = true → x.r.id = x.id) (hi : ∀ x ∈ M, 0 ≤ x.id ∧ x.id < 50) (b : List Rng) :
    fcnt (mfindB 2 M b) 0 = 0 ∧ (∀ i : Nat, ((fcnt (mfindB 2 M b) i < (mfindB 2 M b).length ∧ (rx (mfindB 2 M b) (fcnt (mfindB 2 M b) i)).id = (i : Int)) ↔ ((kdef i M).is && rightBox 2 b && mB b (kdef i M).r.vals) = true) ∧
      fcnt (mfindB 2 M b) (i + 1) = fcnt (mfindB 2 M b) i + ((kdef i M).is && rightBox 2 b && mB b (kdef i M).r.vals).toNat) ∧ fcnt (mfindB 2 M b) 50 = (mfindB 2 M b).length := by
  have hmem : ∀ r, r ∈ mfindB 2 M b ↔ rightBox 2 b = true ∧ ∃ x ∈ M, x.is = true ∧ mB b x.r.vals = true ∧ x.r = r := fun r => by
    unfold mfindB
    split
    · rename_i h
      unfold mfindL
      rw [List.mem_map]
      simp only [List.mem_filter, Bool.and_eq_true]
      exact ⟨fun ⟨x, ⟨a, c, d⟩, e⟩ => ⟨h, x, a, c, d, e⟩, fun ⟨_, x, a, c, d, e⟩ => ⟨x, ⟨a, c, d⟩, e⟩⟩
    · rename_i h
      simp [h]
  have hsrt : Srt (mfindB 2 M b) := by
    unfold mfindB
    split
    · unfold mfindL Srt
      rw [List.pairwise_map]
      have h1 : (M.filter fun x => x.is && mB b x.r.vals).Pairwise fun a c => a.id < c.id := List.Pairwise.filter _ hs
      refine List.Pairwise.imp_of_mem (fun {a c} ha hc h => ?_) h1
      have ha' := List.mem_filter.1 ha
      have hc' := List.mem_filter.1 hc
      rw [hk a ha'.1 (Bool.and_eq_true_iff.1 ha'.2).1, hk c hc'.1 (Bool.and_eq_true_iff.1 hc'.2).1]
      exact h
    · exact List.Pairwise.nil
  have hhit : ∀ i : Nat, (∃ r ∈ mfindB 2 M b, r.id = (i : Int)) ↔ ((kdef i M).is && rightBox 2 b && mB b (kdef i M).r.vals) = true := fun i => by
    constructor
    · rintro ⟨r, hr, he⟩
      obtain ⟨h1, x, hx, h2, h3, rfl⟩ := (hmem r).1 hr
      have ei : x.id = (i : Int) := by rw [← hk x hx h2]; exact he
      have : kdef i M = x := by unfold kdef; rw [← ei, hs.kfind hx]; rfl
      rw [this, h1, h2, h3]
      rfl
    · intro h
      simp only [Bool.and_eq_true] at h
      obtain ⟨⟨h1, h2⟩, h3⟩ := h
      unfold kdef at h1 h3
      cases e : kfind (i : Int) M with
      | none => rw [e] at h1; cases h1
      | some x =>
        rw [e] at h1 h3
        obtain ⟨hx, hxi⟩ := kfind_some e
        exact ⟨x.r, (hmem _).2 ⟨h2, x, hx, h1, h3, rfl⟩, by rw [hk x hx h1]; exact hxi⟩
  have hany : ∀ i : Nat, ((mfindB 2 M b).any fun r => decide (r.id = (i : Int))) = ((kdef i M).is && rightBox 2 b && mB b (kdef i M).r.vals) := fun i => by
    rw [Bool.eq_iff_iff, ← hhit i, List.any_eq_true]
    simp
  have hrng : ∀ r ∈ mfindB 2 M b, 0 ≤ r.id ∧ r.id < 50 := fun r hr => by
    obtain ⟨_, x, hx, h2, _, rfl⟩ := (hmem r).1 hr
    rw [hk x hx h2]
    exact hi x hx
  refine ⟨?_, fun i => ⟨(fcnt_at hsrt).1.trans (hhit i), by rw [(fcnt_at hsrt).2, hany i]⟩, ?_⟩
  · unfold fcnt
    rw [List.length_eq_zero_iff, List.filter_eq_nil_iff]
    intro r hr
    have := hrng r hr
    simp; omega
  · unfold fcnt
    rw [List.filter_eq_self.2]
    intro r hr
    have := hrng r hr
    simp; omega

set_option maxRecDepth 100000 in
set_option maxHeartbeats 8000000 in
theorem modelFinds_any (vl vb : Value) (l : List Rec) (bx0 : List Rng) (w : World) (hl : Recs (Old w) w vl l) (hb : Rngs (Old w) w vb bx0) (hll : l.length ≤ 9223372036854775807) (hbl : bx0.length ≤ 9223372036854775807) (wl : ∀ j, j < l.length → WfIn (rx l j)) (wb : WfB bx0) :
    Calls Try.prog 8 #[vl, vb] w fun e w' => e = .returned (.bool true) ∧ Nw w w' := by
  have hm := mixed
  have HBX := hid hb
  obtain ⟨la, lc, rfl, hlc, hlcell⟩ := hl
  obtain ⟨ba, bc, rfl, hbc, _⟩ := hb
  have HL := hid hlcell
  have HW := hid wl
  clear hlcell wl
  by_cases hb2 : bx0.length = 2
  · have hne : ((bx0.length : Int) != 2) = false := by simp [hb2]
    have hb2' : bx0.length ≤ 2 := by omega
    have HB2 := hid hb2
    clear hb2
    go_enter Try.func8, Try.ntmps8
    go_wp2_with fail
    refine (mnew_any 2 w).mono ?_
    rintro e W ⟨p, mb, rfl, hnw, hp, hmb, hG⟩
    have H0 := hid (MW.start hnw hG hmb 0)
    clear hnw hG
    go_wp2_with (go_at_call 23; refine (awake24_any _).mono ?_; rintro e W1 ⟨rfl, hn1⟩; have H1 := hid (H0.out.nws hn1); clear hn1)
    clear H0
    go_loopw [6] (fun i wr => ∃ (k : Nat) (M : List Kn), k ≤ l.length ∧ k ≤ 40 ∧ i = .int .i64 k ∧ Hid (MW w wr p mb 2 M k) ∧ Hid (∀ x ∈ M, 0 ≤ x.id ∧ x.id < 50)) (fun i _ => 40 - (intOf i).toNat)
    case atStart => exact ⟨0, [], by omega, by omega, by simp, H1, hid (fun _ hx => nomatch hx)⟩
    case round =>
      clear H1
      obtain ⟨k, M, hk, hk40, rfl, HM, HI⟩ := hrel
      by_cases hlt : k < l.length ∧ k < 40
      · obtain ⟨hlt, hlt40⟩ := hlt
        obtain ⟨b, o, rfl, hx, hcell⟩ := HL.out (by omega)
        obtain ⟨s, c0, c1, _⟩ := hcell k hlt
        have c0 := HM.out.nw.cell c0 (fun h => h)
        have c1 := HM.out.nw.cell c1 (fun h => h)
        have hwr := HW.out k hlt
        generalize rx l k = r at *
        clear hcell
        obtain ⟨⟨z0, z1⟩, ⟨z2, z3⟩, z4⟩ := hwr
        have hput : ∀ W', MW w W' p mb 2 M k → ∀ s, Nums (fun b => b = mb) .u32 W' s [IntKind.u32.wrap (r.id / 8), IntKind.u32.wrap r.ver] → Calls Try.prog 24 #[.pointer (some ⟨p, 0, none⟩), .agg #[.int .u64 (r.id.tmod 50), .int .u64 (IntKind.u64.wrap (1 + r.ver.tmod 9)), s]] W' (PutD w W' p mb 2 M k (fRec r)) := fun W' h s hs => by
          have e1 : r.id.tmod 50 = r.id % 50 := Int.tmod_eq_emod_of_nonneg z0
          have e2 : IntKind.u64.wrap (1 + r.ver.tmod 9) = 1 + r.ver % 9 := by rw [Int.tmod_eq_emod_of_nonneg z2, IntKind.wrap_u64]; omega
          have e3 : IntKind.u32.wrap (r.id / 8) = r.id / 8 % 4294967296 := IntKind.wrap_u32 _
          have e4 : IntKind.u32.wrap r.ver = r.ver % 4294967296 := IntKind.wrap_u32 _
          rw [e3, e4] at hs
          rw [e1, e2]
          exact h.put (r := fRec r) ⟨_, rfl, hs⟩ (wf_fRec ⟨⟨z0, z1⟩, ⟨z2, z3⟩, z4⟩) (by simp [fRec]) (by omega)
        have HPUT := hid hput
        have HSZ := hid HM.out.mbl
        have hxb := hid (show b ≠ mb from fun e => hx (by have := HM.out.mb0; unfold Old; omega))
        have hi2 : Hid (∀ x ∈ mputM 2 M (fRec r), 0 ≤ x.id ∧ x.id < 50) := hid (by
          unfold mputM
          split
          · intro x hx
            rcases mem_kput.1 hx with rfl | ⟨hx, _⟩
            · exact ⟨by show 0 ≤ r.id % 50; omega, by show r.id % 50 < 50; omega⟩
            · exact HI.out x hx
          · exact HI.out)
        clear hput hx z4
        go_wp2_with fail
        go_region_held3 (fun w' => w'.cell? ⟨b, o + k * 3, none⟩ = some (.int .u64 r.id) ∧ w'.cell? ⟨b, o + k * 3 + 1, none⟩ = some (.int .u64 r.ver))
          (first | go_keep | exact ⟨cA, cB⟩)
          (first
            | (go_at_call 24; refine (HPUT.out _ (HM.out.nws ((Gr.alloc wr _).trans (Gr.drew _)).nw) _ ((nums_two wr _ rfl .u32 _ _ _ (fun e => by have h1 := HSZ.out; have e : wr.heap.size = mb := e; omega)).gr (Gr.drew _))).mono ?_; rintro e W2 ⟨rfl, hm2, hk2⟩; have HM2 := hid hm2; have cA := hk2.cell (((Gr.alloc wr (.cells #[.int .u32 (IntKind.u32.wrap (r.id / 8)), .int .u32 (IntKind.u32.wrap r.ver)] 39)).trans (Gr.drew _)).cell c0) hxb.out; have cB := hk2.cell (((Gr.alloc wr (.cells #[.int .u32 (IntKind.u32.wrap (r.id / 8)), .int .u32 (IntKind.u32.wrap r.ver)] 39)).trans (Gr.drew _)).cell c1) hxb.out; clear hm2 hk2))
        go_wp2
        go_roundw
        case rel => exact ⟨k + 1, mputM 2 M (fRec r), by omega, by omega, by go_num, HM2, hi2⟩
        case measure => simp [intOf]; omega
      · have hex : ¬ k < l.length ∨ (k < l.length ∧ ¬ k < 40) := by omega
        clear hlt HL HW
        rcases hex with hx1 | ⟨hx1, hx2⟩
        all_goals
          go_wp2_with fail
          refine (HM.out.find (by omega) ((HBX.out.kp (Nw.to HM.out.nw)).mono (fun b _ e => by have e : b = mb := e; have := HM.out.mb0; unfold Old; omega)) wb (by omega)).mono ?_
          rintro e W2 ⟨fa, fc, rfl, hn2, hf2⟩
          have HF := hid (hf2 (fun _ => False) (fun _ _ h => h))
          have HM2 := hid (HM.out.nws hn2)
          have hlaw := finds_law HM.out.srt HM.out.key HI.out bx0
          have hHl := mfindB_len 2 M bx0
          have hMl := HM.out.len
          have HWF := hid HM.out.wf
          generalize mfindB 2 M bx0 = H at *
          have HLAW := hid hlaw
          clear hf2 hn2 hlaw HI HM
          go_wp2
          go_loopw [8, 9] (fun kv iv wr => ∃ (i c : Nat), i ≤ 50 ∧ c ≤ H.length ∧ iv = .int .u64 i ∧ kv = .int .i64 c ∧ c = fcnt H i ∧ Hid (Nw W2 wr)) (fun _ iv _ => 50 - (intOf iv).toNat)
          case atStart => exact ⟨0, 0, by omega, by omega, by simp, by simp, by rw [HLAW.out.1], hid (Nw.refl _)⟩
          case round =>
            obtain ⟨i, c, hi, hc, rfl, rfl, hcc, HNW⟩ := hrel
            have HCC := hid hcc
            clear hcc
            by_cases hi50 : i < 50
            · obtain ⟨l1, l2⟩ := HLAW.out.2.1 i
              rw [← HCC.out] at l1 l2
              have HC1 := hid l2
              have hget := (HM2.out.nws HNW.out).get (id := i) ⟨by omega, by omega⟩
              have hwk := wf_kdef (k := i) HWF.out ⟨by omega, by omega⟩
              have hle : fcnt H (i + 1) ≤ H.length := List.length_filter_le _ _
              have HLE := hid hle
              have HL1 := hid l1
              clear l1 l2 hle
              generalize kdef (i : Int) M = x at *
              obtain ⟨xi, xv, xb, xr⟩ := x
              obtain ⟨_, _, _, _, wv, wvl⟩ := hwk
              dsimp only at *
              have hright : ∀ W', Nw wr W' → Calls Try.prog 27 #[.int .i64 2, .slice ba bx0.length bc] W' fun e w' => e = .returned (.bool (rightBox 2 bx0)) ∧ Gr W' w' := fun W' h => refBoxRight_any (Old w) 2 _ bx0 W' (HBX.out.kp (Nw.to (((HM2.out.nw).trans HNW.out).trans h))) (by omega)
              have HMT : Hid (∀ W' s, Nw wr W' → Nums (fun _ => False) .u32 W' s xr.vals → Calls Try.prog 28 #[.slice ba bx0.length bc, s] W' fun e w' => e = .returned (.bool (mB bx0 xr.vals)) ∧ Gr W' w') := hid (fun W' s h hs => refMatch_any (fun _ => False) _ _ bx0 xr.vals W' ((HBX.out.kp (Nw.to (((HM2.out.nw).trans HNW.out).trans h))).mono (fun _ _ h => h.elim)) hs (by omega) (by omega) wb wv)
              generalize rightBox 2 bx0 = rb at *
              generalize mB bx0 xr.vals = mt at *
              clear wv
              cases xb with
              | false =>
                by_cases hcl : c < H.length
                · have hat : ¬ (rx H c).id = (i : Int) := fun e => by have := HL1.out.1 ⟨hcl, e⟩; simp at this
                  have hbe : ((rx H c).id == (i : Int)) = false := by simpa using hat
                  obtain ⟨fa0, fc0, hfe, _, hfcell⟩ := HF.out
                  injection hfe with hf1 hf2 hf3
                  subst hf1
                  subst hf3
                  clear hf2
                  obtain ⟨fb, fo, rfl, _, hfc⟩ := hfcell (by omega)
                  obtain ⟨fs, q0, _, _⟩ := hfc c hcl
                  have q0 := HNW.out.cell q0 (fun h => h)
                  generalize (rx H c).id = z at *
                  clear hfc hfcell hat
                  go_wp2_with (first
                    | (go_at_call 26; refine hget.mono ?_; rintro e W3 ⟨s3, rfl, hn3, hs3⟩; obtain ⟨sa, sc, rfl, _, _⟩ := hs3 (fun _ => False) (fun _ _ h => h); have HS3 := hid hs3; have HN3 := hid hn3; have d2 : (W3.alloc (.cells #[.int .u64 xr.id, .int .u64 xr.ver, .slice sa xr.vals.length sc] 30)).cell? ⟨W3.heap.size, 2, none⟩ = some (.slice sa xr.vals.length sc) := (by simp); have q0 := (Gr.alloc W3 (.cells #[.int .u64 xr.id, .int .u64 xr.ver, .slice sa xr.vals.length sc] 30)).cell (hn3.cell q0 (fun h => h)); clear hn3 hs3)
                    | (go_at_call 27; refine (hright _ ((HN3.out.trans (Gr.alloc W3 _).nw))).mono ?_; rintro e W4 ⟨rfl, hg4⟩; have HG4 := hid hg4; have d2 := hg4.cell d2; have q0 := hg4.cell q0; clear hg4)
                    | (go_at_call 28; refine (HMT.out W4 _ ((HN3.out.trans (Gr.alloc W3 _).nw).trans HG4.out.nw) (((HS3.out (fun _ => False) (fun _ _ h => h)).gr (Gr.alloc W3 _)).gr HG4.out)).mono ?_; rintro e W5 ⟨rfl, hg5⟩; have HG5 := hid hg5; have q0 := hg5.cell q0; clear hg5))
                  go_roundw
                  case rel => exact ⟨i + 1, c, by omega, hc, by go_num, by go_num, by rw [HC1.out]; simp, hid (HNW.out.trans (HN3.out.trans (Gr.alloc W3 _).nw))⟩
                  case measure => simp [intOf]; omega
                · go_wp2_with (first
                    | (go_at_call 26; refine hget.mono ?_; rintro e W3 ⟨s3, rfl, hn3, hs3⟩; obtain ⟨sa, sc, rfl, _, _⟩ := hs3 (fun _ => False) (fun _ _ h => h); have HS3 := hid hs3; have HN3 := hid hn3; have d2 : (W3.alloc (.cells #[.int .u64 xr.id, .int .u64 xr.ver, .slice sa xr.vals.length sc] 30)).cell? ⟨W3.heap.size, 2, none⟩ = some (.slice sa xr.vals.length sc) := (by simp); clear hn3 hs3)
                    | (go_at_call 27; refine (hright _ ((HN3.out.trans (Gr.alloc W3 _).nw))).mono ?_; rintro e W4 ⟨rfl, hg4⟩; have HG4 := hid hg4; have d2 := hg4.cell d2; clear hg4)
                    | (go_at_call 28; refine (HMT.out W4 _ ((HN3.out.trans (Gr.alloc W3 _).nw).trans HG4.out.nw) (((HS3.out (fun _ => False) (fun _ _ h => h)).gr (Gr.alloc W3 _)).gr HG4.out)).mono ?_; rintro e W5 ⟨rfl, hg5⟩; have HG5 := hid hg5; clear hg5))
                  go_roundw
                  case rel => exact ⟨i + 1, c, by omega, hc, by go_num, by go_num, by rw [HC1.out]; simp, hid (HNW.out.trans (HN3.out.trans (Gr.alloc W3 _).nw))⟩
                  case measure => simp [intOf]; omega
              | true =>
                cases rb with
                | false =>
                  by_cases hcl : c < H.length
                  · have hat : ¬ (rx H c).id = (i : Int) := fun e => by have := HL1.out.1 ⟨hcl, e⟩; simp at this
                    have hbe : ((rx H c).id == (i : Int)) = false := by simpa using hat
                    obtain ⟨fa0, fc0, hfe, _, hfcell⟩ := HF.out
                    injection hfe with hf1 hf2 hf3
                    subst hf1
                    subst hf3
                    clear hf2
                    obtain ⟨fb, fo, rfl, _, hfc⟩ := hfcell (by omega)
                    obtain ⟨fs, q0, _, _⟩ := hfc c hcl
                    have q0 := HNW.out.cell q0 (fun h => h)
                    generalize (rx H c).id = z at *
                    clear hfc hfcell hat
                    go_wp2_with (first
                      | (go_at_call 26; refine hget.mono ?_; rintro e W3 ⟨s3, rfl, hn3, hs3⟩; obtain ⟨sa, sc, rfl, _, _⟩ := hs3 (fun _ => False) (fun _ _ h => h); have HS3 := hid hs3; have HN3 := hid hn3; have d2 : (W3.alloc (.cells #[.int .u64 xr.id, .int .u64 xr.ver, .slice sa xr.vals.length sc] 30)).cell? ⟨W3.heap.size, 2, none⟩ = some (.slice sa xr.vals.length sc) := (by simp); have q0 := (Gr.alloc W3 (.cells #[.int .u64 xr.id, .int .u64 xr.ver, .slice sa xr.vals.length sc] 30)).cell (hn3.cell q0 (fun h => h)); clear hn3 hs3)
                      | (go_at_call 27; refine (hright _ ((HN3.out.trans (Gr.alloc W3 _).nw))).mono ?_; rintro e W4 ⟨rfl, hg4⟩; have HG4 := hid hg4; have d2 := hg4.cell d2; have q0 := hg4.cell q0; clear hg4)
                      | (go_at_call 28; refine (HMT.out W4 _ ((HN3.out.trans (Gr.alloc W3 _).nw).trans HG4.out.nw) (((HS3.out (fun _ => False) (fun _ _ h => h)).gr (Gr.alloc W3 _)).gr HG4.out)).mono ?_; rintro e W5 ⟨rfl, hg5⟩; have HG5 := hid hg5; have q0 := hg5.cell q0; clear hg5))
                    go_roundw
                    case rel => exact ⟨i + 1, c, by omega, hc, by go_num, by go_num, by rw [HC1.out]; simp, hid (HNW.out.trans ((HN3.out.trans (Gr.alloc W3 _).nw).trans HG4.out.nw))⟩
                    case measure => simp [intOf]; omega
                  · go_wp2_with (first
                      | (go_at_call 26; refine hget.mono ?_; rintro e W3 ⟨s3, rfl, hn3, hs3⟩; obtain ⟨sa, sc, rfl, _, _⟩ := hs3 (fun _ => False) (fun _ _ h => h); have HS3 := hid hs3; have HN3 := hid hn3; have d2 : (W3.alloc (.cells #[.int .u64 xr.id, .int .u64 xr.ver, .slice sa xr.vals.length sc] 30)).cell? ⟨W3.heap.size, 2, none⟩ = some (.slice sa xr.vals.length sc) := (by simp); clear hn3 hs3)
                      | (go_at_call 27; refine (hright _ ((HN3.out.trans (Gr.alloc W3 _).nw))).mono ?_; rintro e W4 ⟨rfl, hg4⟩; have HG4 := hid hg4; have d2 := hg4.cell d2; clear hg4)
                      | (go_at_call 28; refine (HMT.out W4 _ ((HN3.out.trans (Gr.alloc W3 _).nw).trans HG4.out.nw) (((HS3.out (fun _ => False) (fun _ _ h => h)).gr (Gr.alloc W3 _)).gr HG4.out)).mono ?_; rintro e W5 ⟨rfl, hg5⟩; have HG5 := hid hg5; clear hg5))
                    go_roundw
                    case rel => exact ⟨i + 1, c, by omega, hc, by go_num, by go_num, by rw [HC1.out]; simp, hid (HNW.out.trans ((HN3.out.trans (Gr.alloc W3 _).nw).trans HG4.out.nw))⟩
                    case measure => simp [intOf]; omega
                | true =>
                  cases mt with
                  | false =>
                    by_cases hcl : c < H.length
                    · have hat : ¬ (rx H c).id = (i : Int) := fun e => by have := HL1.out.1 ⟨hcl, e⟩; simp at this
                      have hbe : ((rx H c).id == (i : Int)) = false := by simpa using hat
                      obtain ⟨fa0, fc0, hfe, _, hfcell⟩ := HF.out
                      injection hfe with hf1 hf2 hf3
                      subst hf1
                      subst hf3
                      clear hf2
                      obtain ⟨fb, fo, rfl, _, hfc⟩ := hfcell (by omega)
                      obtain ⟨fs, q0, _, _⟩ := hfc c hcl
                      have q0 := HNW.out.cell q0 (fun h => h)
                      generalize (rx H c).id = z at *
                      clear hfc hfcell hat
                      go_wp2_with (first
                        | (go_at_call 26; refine hget.mono ?_; rintro e W3 ⟨s3, rfl, hn3, hs3⟩; obtain ⟨sa, sc, rfl, _, _⟩ := hs3 (fun _ => False) (fun _ _ h => h); have HS3 := hid hs3; have HN3 := hid hn3; have d2 : (W3.alloc (.cells #[.int .u64 xr.id, .int .u64 xr.ver, .slice sa xr.vals.length sc] 30)).cell? ⟨W3.heap.size, 2, none⟩ = some (.slice sa xr.vals.length sc) := (by simp); have q0 := (Gr.alloc W3 (.cells #[.int .u64 xr.id, .int .u64 xr.ver, .slice sa xr.vals.length sc] 30)).cell (hn3.cell q0 (fun h => h)); clear hn3 hs3)
                        | (go_at_call 27; refine (hright _ ((HN3.out.trans (Gr.alloc W3 _).nw))).mono ?_; rintro e W4 ⟨rfl, hg4⟩; have HG4 := hid hg4; have d2 := hg4.cell d2; have q0 := hg4.cell q0; clear hg4)
                        | (go_at_call 28; refine (HMT.out W4 _ ((HN3.out.trans (Gr.alloc W3 _).nw).trans HG4.out.nw) (((HS3.out (fun _ => False) (fun _ _ h => h)).gr (Gr.alloc W3 _)).gr HG4.out)).mono ?_; rintro e W5 ⟨rfl, hg5⟩; have HG5 := hid hg5; have q0 := hg5.cell q0; clear hg5))
                      go_roundw
                      case rel => exact ⟨i + 1, c, by omega, hc, by go_num, by go_num, by rw [HC1.out]; simp, hid (HNW.out.trans (((HN3.out.trans (Gr.alloc W3 _).nw).trans HG4.out.nw).trans HG5.out.nw))⟩
                      case measure => simp [intOf]; omega
                    · go_wp2_with (first
                        | (go_at_call 26; refine hget.mono ?_; rintro e W3 ⟨s3, rfl, hn3, hs3⟩; obtain ⟨sa, sc, rfl, _, _⟩ := hs3 (fun _ => False) (fun _ _ h => h); have HS3 := hid hs3; have HN3 := hid hn3; have d2 : (W3.alloc (.cells #[.int .u64 xr.id, .int .u64 xr.ver, .slice sa xr.vals.length sc] 30)).cell? ⟨W3.heap.size, 2, none⟩ = some (.slice sa xr.vals.length sc) := (by simp); clear hn3 hs3)
                        | (go_at_call 27; refine (hright _ ((HN3.out.trans (Gr.alloc W3 _).nw))).mono ?_; rintro e W4 ⟨rfl, hg4⟩; have HG4 := hid hg4; have d2 := hg4.cell d2; clear hg4)
                        | (go_at_call 28; refine (HMT.out W4 _ ((HN3.out.trans (Gr.alloc W3 _).nw).trans HG4.out.nw) (((HS3.out (fun _ => False) (fun _ _ h => h)).gr (Gr.alloc W3 _)).gr HG4.out)).mono ?_; rintro e W5 ⟨rfl, hg5⟩; have HG5 := hid hg5; clear hg5))
                      go_roundw
                      case rel => exact ⟨i + 1, c, by omega, hc, by go_num, by go_num, by rw [HC1.out]; simp, hid (HNW.out.trans (((HN3.out.trans (Gr.alloc W3 _).nw).trans HG4.out.nw).trans HG5.out.nw))⟩
                      case measure => simp [intOf]; omega
                  | true =>
                    have hat := HL1.out.2 rfl
                    obtain ⟨hat1, hat2⟩ := hat
                    obtain ⟨fa0, fc0, hfe, _, hfcell⟩ := HF.out
                    injection hfe with hf1 hf2 hf3
                    subst hf1
                    subst hf3
                    clear hf2
                    obtain ⟨fb, fo, rfl, _, hfc⟩ := hfcell (by omega)
                    obtain ⟨fs, q0, _, _⟩ := hfc c hat1
                    rw [hat2] at q0
                    have q0 := HNW.out.cell q0 (fun h => h)
                    clear hfc hfcell
                    go_wp2_with (first
                      | (go_at_call 26; refine hget.mono ?_; rintro e W3 ⟨s3, rfl, hn3, hs3⟩; obtain ⟨sa, sc, rfl, _, _⟩ := hs3 (fun _ => False) (fun _ _ h => h); have HS3 := hid hs3; have HN3 := hid hn3; have d2 : (W3.alloc (.cells #[.int .u64 xr.id, .int .u64 xr.ver, .slice sa xr.vals.length sc] 30)).cell? ⟨W3.heap.size, 2, none⟩ = some (.slice sa xr.vals.length sc) := (by simp); have q0 := (Gr.alloc W3 (.cells #[.int .u64 xr.id, .int .u64 xr.ver, .slice sa xr.vals.length sc] 30)).cell (hn3.cell q0 (fun h => h)); clear hn3 hs3)
                      | (go_at_call 27; refine (hright _ ((HN3.out.trans (Gr.alloc W3 _).nw))).mono ?_; rintro e W4 ⟨rfl, hg4⟩; have HG4 := hid hg4; have d2 := hg4.cell d2; have q0 := hg4.cell q0; clear hg4)
                      | (go_at_call 28; refine (HMT.out W4 _ ((HN3.out.trans (Gr.alloc W3 _).nw).trans HG4.out.nw) (((HS3.out (fun _ => False) (fun _ _ h => h)).gr (Gr.alloc W3 _)).gr HG4.out)).mono ?_; rintro e W5 ⟨rfl, hg5⟩; have HG5 := hid hg5; have q0 := hg5.cell q0; clear hg5))
                    go_roundw
                    case rel => exact ⟨i + 1, c + 1, by omega, by omega, by go_num, by go_num, by rw [HC1.out]; rfl, hid (HNW.out.trans (((HN3.out.trans (Gr.alloc W3 _).nw).trans HG4.out.nw).trans HG5.out.nw))⟩
                    case measure => simp [intOf]; omega
            · obtain rfl : i = 50 := by omega
              have hend := HLAW.out.2.2
              rw [← HCC.out] at hend
              have HE := hid hend
              clear hend
              go_wp2
              go_ret
              exact ⟨ret_bool (by rw [HE.out]; simp), HM2.out.nw.trans HNW.out⟩
  · have hne : ((bx0.length : Int) != 2) = true := by simp; omega
    clear hb2 HL HW
    go_enter Try.func8, Try.ntmps8
    go_wp2_with fail
    refine (mnew_any 2 w).mono ?_
    rintro e W ⟨p, mb, rfl, hnw, hp, hmb, hG⟩
    have H0 := hid hnw
    clear hnw hG
    go_wp2_with fail
    refine (awake24_any _).mono ?_
    rintro e W1 ⟨rfl, hn1⟩
    have H1 := hid (H0.out.trans hn1)
    clear hn1
    go_wp2_with fail
    refine (awake24_any _).mono ?_
    rintro e W2 ⟨rfl, hn2⟩
    have H2 := hid (H1.out.trans hn2)
    clear hn2
    go_wp2
    go_ret
    exact ⟨rfl, H2.out⟩

end Go.Proofs.Ytkehhopdppampaa
