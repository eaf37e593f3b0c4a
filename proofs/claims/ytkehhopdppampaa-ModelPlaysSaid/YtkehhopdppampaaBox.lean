/-
  Box: circle.Far, Size, Has; box.Span, In, Match; petasosref05.In, Match: what they answer.
-/
import Derived.Test.YtkehhopdppampaaMem
import Derived.Test.YtkehhopdppampaaProg
import Derived.WalkSpells
import Derived.WalkLawsBesides
import Derived.BigQuiet
set_option linter.unusedVariables false
set_option linter.unusedSimpArgs false
namespace Go.Proofs.Ytkehhopdppampaa
open Go.RowKit Go.Sort

theorem mixed : Try.prog.follows .mixedOrders = true := by kernel_rfl

/-! ### plain -/
def W32 (x : Int) : Prop := 0 ≤ x ∧ x < 4294967296
def szI (a b : Int) : Int := if a = b then 4294967296 else (b - a) % 4294967296
def hasI (a b v : Int) : Bool := decide ((v - (a + 1) % 4294967296) % 4294967296 < szI a b)
def inB (r : Rng) (v : Int) : Bool := decide (r.kind = 1) || (decide (r.kind = 2) && decide ((v - r.lo) % 4294967296 ≤ (r.hi - r.lo) % 4294967296))
def mB (b : List Rng) (vs : List Int) : Bool := decide (b.length = vs.length) && (b.zip vs).all fun p => inB p.1 p.2
def WfR (r : Rng) : Prop := W32 r.lo ∧ W32 r.hi
def WfB (b : List Rng) : Prop := ∀ j, j < b.length → WfR (bx b j)
def WfV (l : List Int) : Prop := ∀ j, j < l.length → W32 (gx l j)

theorem has_any_kind (v : Int) (h : W32 v) : hasI 4294967295 4294967295 v = true := by
  obtain ⟨h0, h1⟩ := h
  simp only [hasI, szI, if_true, decide_eq_true_eq]
  omega
theorem has_between (lo hi v : Int) (h0 : W32 lo) (h1 : W32 hi) (h2 : W32 v) : hasI ((lo - 1) % 4294967296) hi v = decide ((v - lo) % 4294967296 ≤ (hi - lo) % 4294967296) := by
  obtain ⟨h00, h01⟩ := h0
  obtain ⟨h10, h11⟩ := h1
  obtain ⟨h20, h21⟩ := h2
  have e1 : (lo - 1) % 4294967296 = if lo = 0 then 4294967295 else lo - 1 := by split <;> omega
  have e2 : ((if lo = 0 then 4294967295 else lo - 1) + 1) % 4294967296 = lo := by split <;> omega
  have e3 : (v - lo) % 4294967296 = if lo ≤ v then v - lo else v - lo + 4294967296 := by split <;> omega
  have e4 : (hi - lo) % 4294967296 = if lo ≤ hi then hi - lo else hi - lo + 4294967296 := by split <;> omega
  unfold hasI szI
  rw [e1, e2, e3, e4, decide_eq_decide]
  by_cases hlo : lo = 0
  · rw [if_pos hlo]; repeat' split
    all_goals omega
  · rw [if_neg hlo]; repeat' split
    all_goals omega
theorem mB_len {b : List Rng} {vs : List Int} (h : b.length ≠ vs.length) : mB b vs = false := by simp [mB, h]
theorem mB_stop {b : List Rng} {vs : List Int} {k : Nat} (hl : b.length = vs.length) (hk : k < b.length) (h : inB (bx b k) (gx vs k) = false) : mB b vs = false := by
  have : ((b.zip vs).all fun p => inB p.1 p.2) = false := by
    rw [List.all_eq_false]
    have hk2 : k < (b.zip vs).length := by simp; omega
    refine ⟨(b.zip vs)[k], List.getElem_mem hk2, ?_⟩
    rw [List.getElem_zip, ← bx_get hk, ← gx_get (l := vs) (by omega), h]
    simp
  simp [mB, this]
theorem mB_end {b : List Rng} {vs : List Int} (hl : b.length = vs.length) (h : ∀ j, j < b.length → inB (bx b j) (gx vs j) = true) : mB b vs = true := by
  have : ((b.zip vs).all fun p => inB p.1 p.2) = true := by
    rw [List.all_eq_true]
    intro p hp
    obtain ⟨j, hj, rfl⟩ := List.getElem_of_mem hp
    have hj2 : j < b.length := by simp at hj; omega
    have := h j hj2
    rw [bx_get hj2, gx_get (l := vs) (by omega)] at this
    rw [List.getElem_zip]
    exact this
  simp [mB, this, hl]

/-! ### circle -/
set_option maxHeartbeats 400000 in
theorem far_any (a b : Int) (w : World) :
    Calls Try.prog 75 #[.int .u32 a, .int .u32 b] w fun e w' => e = .returned (.int .u32 ((b - a) % 4294967296)) ∧ w' = w := by
  go_enter Try.func75, Try.ntmps75
  go_wp2
  go_ret
  exact ⟨rfl, rfl⟩
theorem far_gr (a b : Int) (w : World) :
    Calls Try.prog 75 #[.int .u32 a, .int .u32 b] w fun e w' => e = .returned (.int .u32 ((b - a) % 4294967296)) ∧ Gr w w' :=
  (far_any a b w).mono fun e w' h => ⟨h.1, by rw [h.2]; exact Gr.refl _⟩

set_option maxHeartbeats 400000 in
theorem size_any (a b : Int) (w : World) :
    Calls Try.prog 76 #[.agg #[.int .u32 a, .int .u32 b]] w fun e w' => e = .returned (.int .u64 (szI a b)) ∧ Gr w w' := by
  by_cases h : a = b
  · subst h
    have e : szI a a = 4294967296 := by simp [szI]
    rw [e]; clear e
    go_enter Try.func76, Try.ntmps76
    go_wp2
    go_ret
    exact ⟨rfl, Gr.alloc _ _⟩
  · have e : szI a b = (b - a) % 4294967296 := by simp [szI, h]
    rw [e]; clear e
    have h' : (a == b) = false := by simpa using h
    clear h
    go_enter Try.func76, Try.ntmps76
    go_wp2_with (go_at_call 75; refine (far_any _ _ _).mono ?_; rintro e w' ⟨rfl, rfl⟩)
    go_ret
    exact ⟨rfl, Gr.alloc _ _⟩

theorem hasI_walk (a v s : Int) : decide (IntKind.u64.wrap ((v - IntKind.u32.wrap (a + 1)) % 4294967296) < s) = decide ((v - (a + 1) % 4294967296) % 4294967296 < s) := by
  rw [IntKind.wrap_u64, IntKind.wrap_u32]
  congr 2
  omega

set_option maxHeartbeats 400000 in
theorem has_any (a b v : Int) (w : World) :
    Calls Try.prog 70 #[.agg #[.int .u32 a, .int .u32 b], .int .u32 v] w fun e w' => e = .returned (.bool (hasI a b v)) ∧ Gr w w' := by
  unfold hasI
  have hm := mixed
  obtain ⟨s, hs⟩ : ∃ s, s = szI a b := ⟨_, rfl⟩
  have hsz : ∀ W, Calls Try.prog 76 #[.agg #[.int .u32 a, .int .u32 b]] W fun e w' => e = .returned (.int .u64 s) ∧ Gr W w' := by rw [hs]; exact fun W => size_any a b W
  rw [← hs]
  clear hs
  go_enter Try.func70, Try.ntmps70
  go_wp2
  obtain ⟨W, hW⟩ : ∃ W, w.alloc (.cells #[.int .u32 a, .int .u32 b] 110) = W := ⟨_, rfl⟩
  have hz : w.heap.size < W.heap.size := by rw [← hW]; simp
  have c0 : W.cell? ⟨w.heap.size, 0, none⟩ = some (.int .u32 a) := by rw [← hW]; simp
  have c1 : W.cell? ⟨w.heap.size, 1, none⟩ = some (.int .u32 b) := by rw [← hW]; simp
  have d0 := cell_grown hz c0
  have d1 := cell_grown hz c1
  have hg : Gr w W := by rw [← hW]; exact Gr.alloc _ _
  have HH : Hid (Gr w W) := hg
  clear hg
  rw [hW]
  clear hW
  go_quiet_grown (first | (go_at_call 75; refine Calls.gr_of (far_gr _ _ _)) | (go_at_call 76; refine Calls.gr_of (hsz _)))
  go_wp2
  go_ret
  exact ⟨ret_bool (hasI_walk a v s), HH.out.trans (Gr.grow _ _ _)⟩

/-! ### box -/
/-- A range's span, and whether there are any values. -/
def spB (r : Rng) : Int × Int × Bool := if r.kind = 1 then (4294967295, 4294967295, true) else if r.kind = 2 then ((r.lo - 1) % 4294967296, r.hi, true) else (0, 0, false)

set_option maxHeartbeats 400000 in
theorem span_any (r : Rng) (w : World) :
    Calls Try.prog 69 #[.agg #[.int .i64 r.kind, .int .u32 r.lo, .int .u32 r.hi]] w fun e w' => e = .returned (.tuple #[.agg #[.int .u32 (spB r).1, .int .u32 (spB r).2.1], .bool (spB r).2.2]) ∧ Gr w w' := by
  obtain ⟨k, lo, hi⟩ := r
  show Calls Try.prog 69 #[.agg #[.int .i64 k, .int .u32 lo, .int .u32 hi]] w _
  by_cases h1 : k = 1
  · subst h1
    go_enter Try.func69, Try.ntmps69
    go_wp2
    exact bodyPost_ret (v := .tuple #[.agg #[.int .u32 4294967295, .int .u32 4294967295], .bool true]) (by simp [results, Try.results69, go_sem]) rfl ⟨rfl, ((Gr.alloc _ _).trans (Gr.alloc _ _))⟩
  · have b1 : (k == 1) = false := by simpa using h1
    by_cases h2 : k = 2
    · subst h2
      clear h1
      go_enter Try.func69, Try.ntmps69
      go_wp2
      exact bodyPost_ret (v := .tuple #[.agg #[.int .u32 ((lo - 1) % 4294967296), .int .u32 hi], .bool true]) (by simp [results, Try.results69, go_sem]) rfl ⟨rfl, ((Gr.alloc _ _).trans (Gr.alloc _ _))⟩
    · have b2 : (k == 2) = false := by simpa using h2
      have e : spB ⟨k, lo, hi⟩ = (0, 0, false) := by simp [spB, h1, h2]
      rw [e]
      clear h1 h2 e
      go_enter Try.func69, Try.ntmps69
      go_wp2
      exact bodyPost_ret (v := .tuple #[.agg #[.int .u32 0, .int .u32 0], .bool false]) (by simp [results, Try.results69, go_sem]) rfl ⟨rfl, ((Gr.alloc _ _).trans (Gr.alloc _ _))⟩

theorem spB_in (r : Rng) (v : Int) (hr : WfR r) (hv : W32 v) : ((spB r).2.2 && hasI (spB r).1 (spB r).2.1 v) = inB r v := by
  obtain ⟨k, lo, hi⟩ := r
  unfold spB inB
  by_cases h1 : k = 1
  · simp [h1, has_any_kind v hv]
  · by_cases h2 : k = 2
    · simp [h2, has_between lo hi v hr.1 hr.2 hv]
    · simp [h1, h2]

set_option maxHeartbeats 400000 in
theorem in_any (r : Rng) (v : Int) (w : World) (hr : WfR r) (hv : W32 v) :
    Calls Try.prog 55 #[.agg #[.int .i64 r.kind, .int .u32 r.lo, .int .u32 r.hi], .int .u32 v] w fun e w' => e = .returned (.bool (inB r v)) ∧ Gr w w' := by
  have hs := spB_in r v hr hv
  have hsp := fun W => span_any r W
  obtain ⟨k, lo, hi⟩ := r
  generalize spB ⟨k, lo, hi⟩ = p at hs hsp
  obtain ⟨a, b, t⟩ := p
  generalize inB ⟨k, lo, hi⟩ v = q at hs ⊢
  clear hr hv
  show Calls Try.prog 55 #[.agg #[.int .i64 k, .int .u32 lo, .int .u32 hi], .int .u32 v] w _
  have hsp' : ∀ W, Calls Try.prog 69 #[.agg #[.int .i64 k, .int .u32 lo, .int .u32 hi]] W fun e w' => e = .returned (.tuple #[.agg #[.int .u32 a, .int .u32 b], .bool t]) ∧ Gr W w' := hsp
  have hs' : (t && hasI a b v) = q := hs
  have HS := hid hs'
  clear hs hs' hsp
  go_enter Try.func55, Try.ntmps55
  go_wp2_with fail
  refine (hsp' _).mono ?_
  rintro e W ⟨rfl, hg⟩
  have hg1 : Gr w W := (Gr.alloc _ _).trans hg
  clear hg hsp'
  cases t
  · go_wp2
    go_ret
    exact ⟨ret_bool HS.out, hg1.trans (Gr.alloc _ _)⟩
  · go_wp2_with fail
    refine (has_any _ _ _ _).mono ?_
    rintro e W2 ⟨rfl, hg2⟩
    go_wp2
    go_ret
    exact ⟨ret_bool (by rw [← HS.out]; simp), (hg1.trans (Gr.alloc _ _)).trans hg2⟩

theorem in_gr (r : Rng) (v : Int) (hr : WfR r) (hv : W32 v) (W : World) :
    Calls Try.prog 55 #[.agg #[.int .i64 r.kind, .int .u32 r.lo, .int .u32 r.hi], .int .u32 v] W fun e w' => e = .returned (.bool (inB r v)) ∧ Gr W w' := in_any r v W hr hv

set_option maxHeartbeats 400000 in
theorem match_any (X : Nat → Prop) (vb vv : Value) (b : List Rng) (vs : List Int) (w : World) (hB : Rngs X w vb b) (hV : Nums X .u32 w vv vs) (hb : b.length ≤ 1000000000000000) (hvl : vs.length ≤ 1000000000000000) (wb : WfB b) (wv : WfV vs) :
    Calls Try.prog 37 #[vb, vv] w fun e w' => e = .returned (.bool (mB b vs)) ∧ Gr w w' := by
  have hm := mixed
  obtain ⟨a, cap, rfl, hl, hc⟩ := hB
  obtain ⟨a2, cap2, rfl, hl2, hc2⟩ := hV
  by_cases hlen : b.length = vs.length
  · have hne : ((b.length : Int) != (vs.length : Int)) = false := by simp [hlen]
    have HL := hid hlen
    clear hlen
    go_enter Try.func37, Try.ntmps37
    go_wp2
    go_loopw [14] (fun i wr => ∃ k : Nat, k ≤ b.length ∧ Hid (∀ j, j < k → inB (bx b j) (gx vs j) = true) ∧ i = .int .i64 k ∧ Gr w wr) (fun i _ => b.length - (intOf i).toNat)
    case atStart => exact ⟨0, by omega, hid (by omega), rfl, Gr.refl _⟩
    case round =>
      obtain ⟨k, hk, HA, rfl, hg⟩ := hrel
      have HG := hid hg
      by_cases hlt : k < b.length
      · obtain ⟨b1, o1, rfl, hx, hcc⟩ := hc (by omega)
        obtain ⟨b2, o2, rfl, hx2, hcc2⟩ := hc2 (by have := HL.out; omega)
        obtain ⟨c0, c1, c2⟩ := hcc k hlt
        have c3 := hcc2 k (by have := HL.out; omega)
        have hlt2 : k < vs.length := by have := HL.out; omega
        have wr1 := wb k hlt
        have wv1 := wv k hlt2
        have c0' := hg.cell c0
        have c1' := hg.cell c1
        have c2' := hg.cell c2
        have c3' := hg.cell c3
        have hin := in_gr (bx b k) (gx vs k) wr1 wv1
        have HW : Hid (WfB b ∧ WfV vs) := ⟨wb, wv⟩
        have HS := @mB_stop b vs k HL.out hlt
        generalize hq : inB (bx b k) (gx vs k) = q at hin HS
        have HQ := hid hq
        generalize hr : bx b k = r at *
        generalize hx' : gx vs k = x at *
        have HR := hid hr
        have HX := hid hx'
        clear hr hx'
        clear hq hc hc2 hcc hcc2 wb wv wr1 wv1 c0 c1 c2 c3 hg
        have HS' := hid HS
        clear HS
        go_wp2
        generalize hW : wr.alloc (Obj.cells #[.int .i64 r.kind, .int .u32 r.lo, .int .u32 r.hi] 41) = W
        have hz : wr.heap.size < W.heap.size := by rw [← hW]; simp
        have d0 := cell_grown hz (show W.cell? ⟨wr.heap.size, 0, none⟩ = some (.int .i64 r.kind) by rw [← hW]; simp)
        have d1 := cell_grown hz (show W.cell? ⟨wr.heap.size, 1, none⟩ = some (.int .u32 r.lo) by rw [← hW]; simp)
        have d2 := cell_grown hz (show W.cell? ⟨wr.heap.size, 2, none⟩ = some (.int .u32 r.hi) by rw [← hW]; simp)
        have g1 : Gr wr W := by rw [← hW]; exact Gr.alloc _ _
        have c3W := g1.cell c3'
        have d3 := cell_grown (World.block_lt_of_cell? _ _ c3W) c3W
        have G1 := hid (HG.out.trans g1)
        clear hW g1 c0' c1' c2' c3' c3W
        go_quiet_grown (first | (go_at_call 55; refine Calls.gr_of (hin _)))
        cases q
        · go_wp2
          go_ret
          exact ⟨ret_bool (HS'.out (by trivial)).symm, G1.out.trans (Gr.grow _ _ _)⟩
        · go_wp2
          go_roundw
          case rel => exact ⟨k + 1, by omega, hid (fun j hj => by
              by_cases e : j = k
              · rw [e, HR.out, HX.out]; exact HQ.out
              · exact HA.out j (by omega)), by go_num, G1.out.trans (Gr.grow _ _ _)⟩
          case measure => simp [intOf]; omega
      · have E := hid (@mB_end b vs HL.out (fun j hj => HA.out j (by omega)))
        clear hc hc2 hg
        go_wp2
        go_ret
        exact ⟨ret_bool E.out.symm, HG.out⟩
  · have E := hid (mB_len hlen)
    have hne : ((b.length : Int) != (vs.length : Int)) = true := by rw [bne_iff_ne]; omega
    clear hlen hc hc2
    go_enter Try.func37, Try.ntmps37
    go_wp2
    go_ret
    exact ⟨ret_bool E.out.symm, Gr.refl _⟩

end Go.Proofs.Ytkehhopdppampaa
