/-
  Right: record.Right, box.Right and the references' like: whether a record, a box, may be.
-/
import Derived.Test.YtkehhopdppampaaRef05
namespace Go.Proofs.Ytkehhopdppampaa
set_option linter.unusedVariables false
set_option linter.unusedSimpArgs false
open Go.RowKit Go.Sort

def cliI (id : Int) : Int := if id / 4294967296 < 16 then id / 4294967296 else -1
def rightB (attrs : Int) (r : Rec) : Bool := decide (1 ≤ attrs) && decide (attrs ≤ 8) && decide ((r.vals.length : Int) = attrs) && decide (r.id / 4294967296 < 16) && decide (1 ≤ r.ver)
def kindB (k : Int) : Bool := decide (1 ≤ k) && decide (k ≤ 3)
def rightBox (attrs : Int) (b : List Rng) : Bool := decide (1 ≤ attrs) && decide (attrs ≤ 8) && decide ((b.length : Int) = attrs) && b.all fun r => kindB r.kind

theorem client_any (id : Int) (w : World) (h0 : 0 ≤ id) (h1 : id < 18446744073709551616) :
    Calls Try.prog 61 #[.int .u64 id] w fun e w' => e = .returned (.int .i64 (cliI id)) ∧ w' = w := by
  by_cases h : id / 4294967296 < 16
  · have hd : cliI id = id / 4294967296 := by simp [cliI, h]
    rw [hd]
    clear hd
    go_enter Try.func61, Try.ntmps61
    go_wp2
    go_ret
    exact ⟨rfl, rfl⟩
  · have hd : cliI id = -1 := by simp [cliI, h]
    rw [hd]
    clear hd
    go_enter Try.func61, Try.ntmps61
    go_wp2
    go_ret
    exact ⟨rfl, rfl⟩

theorem refClient_any (id : Int) (w : World) (h0 : 0 ≤ id) (h1 : id < 18446744073709551616) :
    Calls Try.prog 66 #[.int .u64 id] w fun e w' => e = .returned (.int .i64 (cliI id)) ∧ w' = w := by
  by_cases h : id / 4294967296 < 16
  · have hd : cliI id = id / 4294967296 := by simp [cliI, h]
    rw [hd]
    clear hd
    go_enter Try.func66, Try.ntmps66
    go_wp2
    go_ret
    exact ⟨rfl, rfl⟩
  · have hd : cliI id = -1 := by simp [cliI, h]
    rw [hd]
    clear hd
    go_enter Try.func66, Try.ntmps66
    go_wp2
    go_ret
    exact ⟨rfl, rfl⟩
theorem cliI_pos {id : Int} (h0 : 0 ≤ id) : 0 ≤ cliI id ↔ id / 4294967296 < 16 := by
  unfold cliI
  split <;> omega
theorem rightB_no {attrs : Int} {r : Rec} (h : ¬ (1 ≤ attrs ∧ attrs ≤ 8 ∧ (r.vals.length : Int) = attrs ∧ r.id / 4294967296 < 16 ∧ 1 ≤ r.ver)) : rightB attrs r = false := by
  cases e : rightB attrs r
  · rfl
  · unfold rightB at e
    simp only [Bool.and_eq_true, decide_eq_true_eq] at e
    exact absurd ⟨e.1.1.1.1, e.1.1.1.2, e.1.1.2, e.1.2, e.2⟩ h
theorem rightB_yes {attrs : Int} {r : Rec} : rightB attrs r = true ↔ 1 ≤ attrs ∧ attrs ≤ 8 ∧ (r.vals.length : Int) = attrs ∧ r.id / 4294967296 < 16 ∧ 1 ≤ r.ver := by
  unfold rightB
  simp only [Bool.and_eq_true, decide_eq_true_eq]
  exact ⟨fun e => ⟨e.1.1.1.1, e.1.1.1.2, e.1.1.2, e.1.2, e.2⟩, fun e => ⟨⟨⟨⟨e.1, e.2.1⟩, e.2.2.1⟩, e.2.2.2.1⟩, e.2.2.2.2⟩⟩
/-- The six ways through the tests of a record. -/
theorem right_ways (attrs : Int) (r : Rec) (h0 : 0 ≤ r.id) : (attrs < 1 ∧ rightB attrs r = false) ∨ (1 ≤ attrs ∧ 8 < attrs ∧ rightB attrs r = false) ∨ (1 ≤ attrs ∧ attrs ≤ 8 ∧ ((r.vals.length : Int) == attrs) = false ∧ rightB attrs r = false) ∨
    (1 ≤ attrs ∧ attrs ≤ 8 ∧ ((r.vals.length : Int) == attrs) = true ∧ cliI r.id < 0 ∧ rightB attrs r = false) ∨ (1 ≤ attrs ∧ attrs ≤ 8 ∧ ((r.vals.length : Int) == attrs) = true ∧ 0 ≤ cliI r.id ∧ r.ver < 1 ∧ rightB attrs r = false) ∨ (1 ≤ attrs ∧ attrs ≤ 8 ∧ ((r.vals.length : Int) == attrs) = true ∧ 0 ≤ cliI r.id ∧ 1 ≤ r.ver ∧ rightB attrs r = true) := by
  have hc := cliI_pos h0
  by_cases h1 : 1 ≤ attrs
  · by_cases h2 : attrs ≤ 8
    · by_cases h3 : (r.vals.length : Int) = attrs
      · by_cases h4 : r.id / 4294967296 < 16
        · by_cases h5 : 1 ≤ r.ver
          · exact Or.inr (Or.inr (Or.inr (Or.inr (Or.inr ⟨h1, h2, by simpa using h3, hc.2 h4, h5, rightB_yes.2 ⟨h1, h2, h3, h4, h5⟩⟩))))
          · exact Or.inr (Or.inr (Or.inr (Or.inr (Or.inl ⟨h1, h2, by simpa using h3, hc.2 h4, by omega, rightB_no (fun h => h5 h.2.2.2.2)⟩))))
        · exact Or.inr (Or.inr (Or.inr (Or.inl ⟨h1, h2, by simpa using h3, by omega, rightB_no (fun h => h4 h.2.2.2.1)⟩)))
      · exact Or.inr (Or.inr (Or.inl ⟨h1, h2, by simpa using h3, rightB_no (fun h => h3 h.2.2.1)⟩))
    · exact Or.inr (Or.inl ⟨h1, by omega, rightB_no (fun h => h2 h.2.1)⟩)
  · exact Or.inl ⟨by omega, rightB_no (fun h => h1 h.1)⟩

set_option maxHeartbeats 1000000 in
theorem right_any (X : Nat → Prop) (attrs : Int) (v : Value) (r : Rec) (w : World) (h : RecV X w v r) (h0 : 0 ≤ r.id) (h1 : r.id < 18446744073709551616) (hl : r.vals.length ≤ 1000000000000) :
    Calls Try.prog 45 #[.int .i64 attrs, v] w fun e w' => e = .returned (.bool (rightB attrs r)) ∧ Gr w w' := by
  obtain ⟨s, rfl, a, cap, rfl, hcl, _⟩ := h
  have hc := fun w => client_any r.id w h0 h1
  rcases right_ways attrs r h0 with ⟨g1, gr⟩ | ⟨g1, g2, gr⟩ | ⟨g1, g2, g3, gr⟩ | ⟨g1, g2, g3, g4, gr⟩ | ⟨g1, g2, g3, g4, g5, gr⟩ | ⟨g1, g2, g3, g4, g5, gr⟩
  all_goals
    rw [gr]
    clear gr
    generalize cliI r.id = c at *
    go_enter Try.func45, Try.ntmps45
    go_wp2_with (go_at_call 61; refine (hc _).mono ?_; rintro e w' ⟨rfl, hw'⟩; subst w')
    go_ret
    first | exact ⟨rfl, Gr.alloc _ _⟩ | exact ⟨ret_bool (by simp; omega), Gr.alloc _ _⟩
set_option maxHeartbeats 1000000 in
theorem refRight_any (X : Nat → Prop) (attrs : Int) (v : Value) (r : Rec) (w : World) (h : RecV X w v r) (h0 : 0 ≤ r.id) (h1 : r.id < 18446744073709551616) (hl : r.vals.length ≤ 1000000000000) :
    Calls Try.prog 53 #[.int .i64 attrs, v] w fun e w' => e = .returned (.bool (rightB attrs r)) ∧ Gr w w' := by
  obtain ⟨s, rfl, a, cap, rfl, hcl, _⟩ := h
  have hc := fun w => refClient_any r.id w h0 h1
  rcases right_ways attrs r h0 with ⟨g1, gr⟩ | ⟨g1, g2, gr⟩ | ⟨g1, g2, g3, gr⟩ | ⟨g1, g2, g3, g4, gr⟩ | ⟨g1, g2, g3, g4, g5, gr⟩ | ⟨g1, g2, g3, g4, g5, gr⟩
  all_goals
    rw [gr]
    clear gr
    generalize cliI r.id = c at *
    go_enter Try.func53, Try.ntmps53
    go_wp2_with (go_at_call 66; refine (hc _).mono ?_; rintro e w' ⟨rfl, hw'⟩; subst w')
    go_ret
    first | exact ⟨rfl, Gr.alloc _ _⟩ | exact ⟨ret_bool (by simp; omega), Gr.alloc _ _⟩

/-! ### boxes -/
theorem kind_any (k : Int) (w : World) : Calls Try.prog 64 #[.int .i64 k] w fun e w' => e = .returned (.bool (kindB k)) ∧ w' = w := by
  by_cases h1 : 1 ≤ k
  · by_cases h2 : k ≤ 3
    · have e : kindB k = true := by simp [kindB, h1, h2]
      rw [e]; clear e
      go_enter Try.func64, Try.ntmps64
      go_wp2
      go_ret
      exact ⟨rfl, rfl⟩
    · have e : kindB k = false := by simp [kindB, h2]
      rw [e]; clear e
      go_enter Try.func64, Try.ntmps64
      go_wp2
      go_ret
      exact ⟨rfl, rfl⟩
  · have e : kindB k = false := by simp [kindB, h1]
    rw [e]; clear e
    go_enter Try.func64, Try.ntmps64
    go_wp2
    go_ret
    exact ⟨rfl, rfl⟩
theorem refKind_any (k lo hi : Int) (w : World) : Calls Try.prog 48 #[.agg #[.int .i64 k, .int .u32 lo, .int .u32 hi]] w fun e w' => e = .returned (.bool (kindB k)) ∧ Gr w w' := by
  by_cases h1 : 1 ≤ k
  · by_cases h2 : k ≤ 3
    · have e : kindB k = true := by simp [kindB, h1, h2]
      rw [e]; clear e
      go_enter Try.func48, Try.ntmps48
      go_wp2
      go_ret
      exact ⟨rfl, Gr.alloc _ _⟩
    · have e : kindB k = false := by simp [kindB, h2]
      rw [e]; clear e
      go_enter Try.func48, Try.ntmps48
      go_wp2
      go_ret
      exact ⟨rfl, Gr.alloc _ _⟩
  · have e : kindB k = false := by simp [kindB, h1]
    rw [e]; clear e
    go_enter Try.func48, Try.ntmps48
    go_wp2
    go_ret
    exact ⟨rfl, Gr.alloc _ _⟩
theorem notKind_any (k lo hi : Int) (w : World) : Calls Try.prog 63 #[.agg #[.int .i64 k, .int .u32 lo, .int .u32 hi]] w fun e w' => e = .returned (.bool (!kindB k)) ∧ Gr w w' := by
  have h := fun w => kind_any k w
  generalize kindB k = kb at *
  go_enter Try.func63, Try.ntmps63
  go_wp2_with (go_at_call 64; refine (h _).mono ?_; rintro e w' ⟨rfl, hw'⟩; subst w')
  go_ret
  exact ⟨rfl, Gr.alloc _ _⟩
theorem all_stop {b : List Rng} {k : Nat} (hk : k < b.length) (h : kindB (bx b k).kind = false) : (b.all fun r => kindB r.kind) = false := by
  rw [List.all_eq_false]
  exact ⟨b[k], List.getElem_mem hk, by rw [← bx_get hk, h]; simp⟩
theorem all_end {b : List Rng} (h : ∀ j, j < b.length → kindB (bx b j).kind = true) : (b.all fun r => kindB r.kind) = true := by
  rw [List.all_eq_true]
  intro r hr
  obtain ⟨j, hj, rfl⟩ := List.getElem_of_mem hr
  have := h j hj
  rwa [bx_get hj] at this

/-- What slices.IndexFunc answers here: below 0 just where all kinds may be. -/
def IdxDone (b : List Rng) (w : World) (e : Ending) (w' : World) : Prop := ∃ n : Int, e = .returned (.int .i64 n) ∧ Gr w w' ∧ decide (0 ≤ n) = !(b.all fun r => kindB r.kind)
set_option maxHeartbeats 1000000 in
theorem idx_any (X : Nat → Prop) (vb : Value) (b : List Rng) (w : World) (h : Rngs X w vb b) (hl : b.length ≤ 1000000000000000) :
    Calls Try.prog 74 #[vb, .func (.func 63) #[] #[]] w (IdxDone b w) := by
  obtain ⟨a, cap, rfl, hcl, hc⟩ := h
  have HC := hid hc
  clear hc
  go_enter Try.func74, Try.ntmps74
  go_wp2
  go_loopw [8] (fun i wr => ∃ k : Nat, k ≤ b.length ∧ i = .int .i64 k ∧ Hid (∀ j, j < k → kindB (bx b j).kind = true) ∧ Hid (Gr w wr)) (fun i _ => b.length - (intOf i).toNat)
  case atStart => exact ⟨0, by omega, by simp, hid (fun j hj => absurd hj (by omega)), hid (Gr.refl _)⟩
  case round =>
    obtain ⟨k, hk, rfl, HA, HG⟩ := hrel
    by_cases hlt : k < b.length
    · obtain ⟨g, o, rfl, hx, hcell⟩ := HC.out (by omega)
      obtain ⟨c0, c1, c2⟩ := hcell k hlt
      have e0 := HG.out.cell c0
      have e1 := HG.out.cell c1
      have e2 := HG.out.cell c2
      have hK := fun w => notKind_any (bx b k).kind (bx b k).lo (bx b k).hi w
      have HST := hid (fun h => all_stop (b := b) hlt h)
      clear hcell c0 c1 c2
      generalize hr : bx b k = r at *
      have HR := hid hr
      clear hr
      cases hkb : kindB r.kind with
      | false =>
        rw [hkb] at hK
        have HD := hid (HST.out hkb)
        clear hkb HST
        go_wp2_with (go_at_call 63; refine (hK _).mono ?_; rintro e w' ⟨rfl, hg⟩; have HG2 := hid (HG.out.trans hg); clear hg)
        go_ret
        exact ⟨k, rfl, HG2.out, by rw [HD.out]; simp⟩
      | true =>
        rw [hkb] at hK
        have HKB := hid hkb
        clear hkb HST
        go_wp2_with (go_at_call 63; refine (hK _).mono ?_; rintro e w' ⟨rfl, hg⟩; have HG2 := hid (HG.out.trans hg); clear hg)
        go_roundw
        case rel => exact ⟨k + 1, by omega, by go_num, hid (fun j hj => by
            by_cases e : j = k
            · rw [e, HR.out]; exact HKB.out
            · exact HA.out j (by omega)), HG2⟩
        case measure => simp [intOf]; omega
    · have hd := hid (all_end (b := b) (fun j hj => HA.out j (by omega)))
      go_wp2
      go_ret
      exact ⟨-1, rfl, HG.out, by rw [hd.out]; simp⟩
theorem contains_any (X : Nat → Prop) (vb : Value) (b : List Rng) (w : World) (h : Rngs X w vb b) (hl : b.length ≤ 1000000000000000) :
    Calls Try.prog 62 #[vb, .func (.func 63) #[] #[]] w fun e w' => e = .returned (.bool (!(b.all fun r => kindB r.kind))) ∧ Gr w w' := by
  have hi := idx_any X vb b w h hl
  clear h
  go_enter Try.func62, Try.ntmps62
  go_wp2_with fail
  refine hi.mono ?_
  rintro e w' ⟨n, rfl, hg, hd⟩
  have HG := hid hg
  have HD := hid hd
  clear hg hd
  go_wp2
  go_ret
  exact ⟨ret_bool HD.out, HG.out⟩
theorem rightBox_no {attrs : Int} {b : List Rng} (h : ¬ (1 ≤ attrs ∧ attrs ≤ 8 ∧ (b.length : Int) = attrs)) : rightBox attrs b = false := by
  cases e : rightBox attrs b
  · rfl
  · unfold rightBox at e
    simp only [Bool.and_eq_true, decide_eq_true_eq] at e
    exact absurd ⟨e.1.1.1, e.1.1.2, e.1.2⟩ h
theorem rightBox_eq {attrs : Int} {b : List Rng} (h1 : 1 ≤ attrs) (h2 : attrs ≤ 8) (h3 : (b.length : Int) = attrs) : rightBox attrs b = b.all fun r => kindB r.kind := by simp [rightBox, h1, h2, h3]
theorem box_ways (attrs : Int) (b : List Rng) : (attrs < 1 ∧ rightBox attrs b = false) ∨ (1 ≤ attrs ∧ 8 < attrs ∧ rightBox attrs b = false) ∨ (1 ≤ attrs ∧ attrs ≤ 8 ∧ ((b.length : Int) == attrs) = false ∧ rightBox attrs b = false) ∨
    (1 ≤ attrs ∧ attrs ≤ 8 ∧ ((b.length : Int) == attrs) = true ∧ rightBox attrs b = b.all fun r => kindB r.kind) := by
  by_cases h1 : 1 ≤ attrs
  · by_cases h2 : attrs ≤ 8
    · by_cases h3 : (b.length : Int) = attrs
      · exact Or.inr (Or.inr (Or.inr ⟨h1, h2, by simpa using h3, rightBox_eq h1 h2 h3⟩))
      · exact Or.inr (Or.inr (Or.inl ⟨h1, h2, by simpa using h3, rightBox_no (fun h => h3 h.2.2)⟩))
    · exact Or.inr (Or.inl ⟨h1, by omega, rightBox_no (fun h => h2 h.2.1)⟩)
  · exact Or.inl ⟨by omega, rightBox_no (fun h => h1 h.1)⟩
set_option maxHeartbeats 1000000 in
theorem boxRight_any (X : Nat → Prop) (attrs : Int) (vb : Value) (b : List Rng) (w : World) (h : Rngs X w vb b) (hl : b.length ≤ 1000000000000000) :
    Calls Try.prog 46 #[.int .i64 attrs, vb] w fun e w' => e = .returned (.bool (rightBox attrs b)) ∧ Gr w w' := by
  have hc := contains_any X vb b w h hl
  obtain ⟨a, cap, rfl, hcl, _⟩ := h
  rcases box_ways attrs b with ⟨g1, gr⟩ | ⟨g1, g2, gr⟩ | ⟨g1, g2, g3, gr⟩ | ⟨g1, g2, g3, gr⟩
  all_goals
    rw [gr]
    clear gr
    generalize (b.all fun r => kindB r.kind) = kb at *
    go_enter Try.func46, Try.ntmps46
    go_wp2_with (go_at_call 62; refine hc.mono ?_; rintro e w' ⟨rfl, hg⟩; have HG := hid hg; clear hg)
    go_ret
    first | exact ⟨rfl, Gr.refl _⟩ | exact ⟨ret_bool (by simp), HG.out⟩
set_option maxHeartbeats 1000000 in
theorem refBoxRight_any (X : Nat → Prop) (attrs : Int) (vb : Value) (b : List Rng) (w : World) (h : Rngs X w vb b) (hl : b.length ≤ 1000000000000000) :
    Calls Try.prog 27 #[.int .i64 attrs, vb] w fun e w' => e = .returned (.bool (rightBox attrs b)) ∧ Gr w w' := by
  obtain ⟨a, cap, rfl, hcl, hc⟩ := h
  have HC := hid hc
  clear hc
  rcases box_ways attrs b with ⟨g1, gr⟩ | ⟨g1, g2, gr⟩ | ⟨g1, g2, g3, gr⟩ | ⟨g1, g2, g3, gr⟩
  · rw [gr]
    clear gr
    go_enter Try.func27, Try.ntmps27
    go_wp2
    go_ret
    exact ⟨rfl, Gr.refl _⟩
  · rw [gr]
    clear gr
    go_enter Try.func27, Try.ntmps27
    go_wp2
    go_ret
    exact ⟨rfl, Gr.refl _⟩
  · rw [gr]
    clear gr
    have g3' : ((b.length : Int) != attrs) = true := by simpa using g3
    go_enter Try.func27, Try.ntmps27
    go_wp2
    go_ret
    exact ⟨rfl, Gr.refl _⟩
  · rw [gr]
    clear gr
    have g3' : ((b.length : Int) != attrs) = false := by simpa using g3
    go_enter Try.func27, Try.ntmps27
    go_wp2
    go_loopw [5] (fun i wr => ∃ k : Nat, k ≤ b.length ∧ i = .int .i64 k ∧ Hid (∀ j, j < k → kindB (bx b j).kind = true) ∧ Hid (Gr w wr)) (fun i _ => b.length - (intOf i).toNat)
    case atStart => exact ⟨0, by omega, by simp, hid (fun j hj => absurd hj (by omega)), hid (Gr.refl _)⟩
    case round =>
      obtain ⟨k, hk, rfl, HA, HG⟩ := hrel
      by_cases hlt : k < b.length
      · obtain ⟨g, o, rfl, hx, hcell⟩ := HC.out (by omega)
        obtain ⟨c0, c1, c2⟩ := hcell k hlt
        have e0 := HG.out.cell c0
        have e1 := HG.out.cell c1
        have e2 := HG.out.cell c2
        have hK := fun w => refKind_any (bx b k).kind (bx b k).lo (bx b k).hi w
        have HST := hid (fun h => all_stop (b := b) hlt h)
        clear hcell c0 c1 c2
        generalize hr : bx b k = r at *
        have HR := hid hr
        clear hr
        cases hkb : kindB r.kind with
        | false =>
          rw [hkb] at hK
          have HD := hid (HST.out hkb)
          clear hkb HST
          go_wp2_with (go_at_call 48; refine (hK _).mono ?_; rintro e w' ⟨rfl, hg⟩; have HG2 := hid (HG.out.trans hg); clear hg)
          go_ret
          exact ⟨ret_bool HD.out.symm, HG2.out⟩
        | true =>
          rw [hkb] at hK
          have HKB := hid hkb
          clear hkb HST
          go_wp2_with (go_at_call 48; refine (hK _).mono ?_; rintro e w' ⟨rfl, hg⟩; have HG2 := hid (HG.out.trans hg); clear hg)
          go_roundw
          case rel => exact ⟨k + 1, by omega, by go_num, hid (fun j hj => by
              by_cases e : j = k
              · rw [e, HR.out]; exact HKB.out
              · exact HA.out j (by omega)), HG2⟩
          case measure => simp [intOf]; omega
      · have hd := hid (all_end (b := b) (fun j hj => HA.out j (by omega)))
        go_wp2
        go_ret
        exact ⟨ret_bool hd.out.symm, HG.out⟩

end Go.Proofs.Ytkehhopdppampaa
