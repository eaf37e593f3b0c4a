/-
  Copies: slices.Clone of ranges and of numbers, record.Copy, petasoshelp.CopyRecord: what was handed in, in memory of the call's own.
-/
import Derived.Test.YtkehhopdppampaaRows2
import Derived.Test.YtkehhopdppampaaBox
import Derived.WalkSpells
import Derived.WalkLawsBesides
set_option linter.unusedVariables false
set_option linter.unusedSimpArgs false
namespace Go.Proofs.Ytkehhopdppampaa
open Go.RowKit Go.Sort

/-- w' is w with new blocks: of what was there nothing has turned. -/
abbrev Nw (w w' : World) : Prop := Kp (fun _ => False) w w'
theorem Nw.refl (w : World) : Nw w w := Kp.refl _ w
theorem Nw.to {X : Nat → Prop} {w w' : World} (h : Nw w w') : Kp X w w' := h.mono (fun _ _ h => h.elim)
theorem Gr.nw {w w' : World} (h : Gr w w') : Nw w w' := h.kp _
/-- One of the call's own rows may have turned. -/
theorem Nw.grown {a w w' : World} {row : Option Nat} (h : Nw a w) (hg : w.grownBy w' row) (hr : ∀ k, row = some k → a.heap.size ≤ k) : Nw a w' :=
  ⟨hg.os.trans h.os, hg.tape.trans h.tape, hg.output.trans h.output, Nat.le_trans h.size hg.size, fun k hk hx => (hg.block k (Nat.lt_of_lt_of_le hk h.size) (fun e => by have := hr k e.symm; omega)).trans (h.block k hk hx)⟩
theorem Nw.setCell {a w : World} (h : Nw a w) {p : Addr} (hp : a.heap.size ≤ p.block) (v : Value) : Nw a (w.setCell p v) :=
  ⟨h.os, h.tape, h.output, Nat.le_trans h.size (by simp [World.setCell]), fun k hk hx => by rw [Below.heap_setCell _ _ _ _ (by omega)]; exact h.block k hk hx⟩
theorem SrcC.kp {X : Nat → Prop} {size : Nat} {w w' : World} {v : Value} {m : Nat} {news : List Value} (h : SrcC size w v m news) (hk : Nw w w') : SrcC size w' v m news := by
  obtain ⟨a, c, hv, hl, h1, hc⟩ := h
  refine ⟨a, c, hv, hl, h1, fun hm => ?_⟩
  obtain ⟨b, o, ha, hcc⟩ := hc hm
  exact ⟨b, o, ha, fun j u hu => hk.cell (hcc j u hu) (fun h => h)⟩

theorem infoRange : (Try.prog.info? 41).map (fun i => (i.zero, i.size, i.bytes)) = some (some (.agg #[.int .i64 0, .int .u32 0, .int .u32 0]), 3, 16) := by kernel_rfl
theorem infoU32 : (Try.prog.info? 39).map (fun i => (i.zero, i.size, i.bytes)) = some (some (.int .u32 0), 1, 4) := by kernel_rfl
theorem infoRec : (Try.prog.info? 30).map (fun i => (i.zero, i.size, i.bytes)) = some (some (.agg #[.int .u64 0, .int .u64 0, .slice none 0 0]), 3, 40) := by kernel_rfl

set_option maxHeartbeats 400000 in
theorem clone_rng (v : Value) (m : Nat) (news : List Value) (w : World) (h : SrcC 3 w v m news) (hm : m ≤ 1000000000000) :
    Calls Try.prog 36 #[v] w fun e w' => ∃ v', e = .returned v' ∧ w'.ownsRow w.heap.size 41 3 v' m news ∧ Nw w w' := by
  have q22 : ∀ (w : World) (a : Option Addr) (n c n' c' : Nat), (binOp .eql 22 (.slice a n c) (.slice none n' c')).run Try.prog w = .ok (.bool a.isNone) w := fun w a n c n' c' => Lib.run_eql_slice_nil w _ _ a n c n' c' Try.underlying22
  obtain ⟨i0, hi, hz0, hz1, hz2⟩ := info_parts infoRange
  have h' := h
  obtain ⟨a, c, rfl, hl, h1, hc⟩ := h
  have HC := hid hc
  have H1 := hid h1
  have HS := hid h'
  clear hc h1 h'
  cases a with
  | none =>
    have hm0 : m = 0 := by
      rcases Nat.eq_zero_or_pos m with e | e
      · exact e
      · obtain ⟨b, o, he, _⟩ := HC.out e; cases he
    subst hm0
    have hn : news = [] := List.eq_nil_of_length_eq_zero (by simpa using hl)
    subst hn
    clear HC H1 HS hl
    go_enter Try.func36, Try.ntmps36
    go_wp2
    go_ret
    exact ⟨_, rfl, World.ownsRow_nil w _ _ _, Nw.refl w⟩
  | some ad =>
    go_enter Try.func36, Try.ntmps36
    go_wp2_with (at_builtin; refine wpList_app rfl _ _ 22 rfl w.heap.size 41 i0 _ 3 16 Try.underlying22 hi hz0 hz1 hz2 rfl (by decide) _ _ _ rfl (World.ownsRow_made w #[] 0 (Nat.le_refl _) (Nat.zero_le _) (by simp)) _ m news rfl ?qc1 ?qc2 ?qc3 ?qc4 ?_)
    case qc1 => exact SrcC.kp (X := fun _ => False) HS.out (Gr.alloc _ _).nw
    case qc2 => unfold maxLen; omega
    case qc3 => omega
    case qc4 => simp
    intro v' w1 hown hgrow hnil
    have HO := hid hown
    have HG := hid hgrow
    clear hown hgrow hnil
    go_wp2
    go_ret
    refine ⟨v', rfl, by simpa using HO.out, (Gr.alloc w _).nw.grown HG.out (by intro k hk; simp [Value.ownBlock] at hk; omega)⟩

set_option maxHeartbeats 400000 in
theorem clone_u32 (v : Value) (m : Nat) (news : List Value) (w : World) (h : SrcC 1 w v m news) (hm : m ≤ 1000000000000) :
    Calls Try.prog 56 #[v] w fun e w' => ∃ v', e = .returned v' ∧ w'.ownsRow w.heap.size 39 1 v' m news ∧ Nw w w' := by
  have q22 : ∀ (w : World) (a : Option Addr) (n c n' c' : Nat), (binOp .eql 28 (.slice a n c) (.slice none n' c')).run Try.prog w = .ok (.bool a.isNone) w := fun w a n c n' c' => Lib.run_eql_slice_nil w _ _ a n c n' c' Try.underlying28
  obtain ⟨i0, hi, hz0, hz1, hz2⟩ := info_parts infoU32
  have h' := h
  obtain ⟨a, c, rfl, hl, h1, hc⟩ := h
  have HC := hid hc
  have H1 := hid h1
  have HS := hid h'
  clear hc h1 h'
  cases a with
  | none =>
    have hm0 : m = 0 := by
      rcases Nat.eq_zero_or_pos m with e | e
      · exact e
      · obtain ⟨b, o, he, _⟩ := HC.out e; cases he
    subst hm0
    have hn : news = [] := List.eq_nil_of_length_eq_zero (by simpa using hl)
    subst hn
    clear HC H1 HS hl
    go_enter Try.func56, Try.ntmps56
    go_wp2
    go_ret
    exact ⟨_, rfl, World.ownsRow_nil w _ _ _, Nw.refl w⟩
  | some ad =>
    go_enter Try.func56, Try.ntmps56
    go_wp2_with (at_builtin; refine wpList_app rfl _ _ 28 rfl w.heap.size 39 i0 _ 1 4 Try.underlying28 hi hz0 hz1 hz2 rfl (by decide) _ _ _ rfl (World.ownsRow_made w #[] 0 (Nat.le_refl _) (Nat.zero_le _) (by simp)) _ m news rfl ?qc1 ?qc2 ?qc3 ?qc4 ?_)
    case qc1 => exact SrcC.kp (X := fun _ => False) HS.out (Gr.alloc _ _).nw
    case qc2 => unfold maxLen; omega
    case qc3 => omega
    case qc4 => simp
    intro v' w1 hown hgrow hnil
    have HO := hid hown
    have HG := hid hgrow
    clear hown hgrow hnil
    go_wp2
    go_ret
    refine ⟨v', rfl, by simpa using HO.out, (Gr.alloc w _).nw.grown HG.out (by intro k hk; simp [Value.ownBlock] at hk; omega)⟩

/-- Fresh: of whatever set of old blocks. -/
def Fresh (B : Nat) (Y : Nat → Prop) : Prop := ∀ b, B ≤ b → ¬ Y b

set_option maxHeartbeats 400000 in
theorem copy_any (X : Nat → Prop) (v : Value) (r : Rec) (w : World) (h : RecV X w v r) (hm : r.vals.length ≤ 1000000000000) :
    Calls Try.prog 38 #[v] w fun e w' => ∃ v', e = .returned v' ∧ Nw w w' ∧ ∀ Y, Fresh w.heap.size Y → RecV Y w' v' r := by
  obtain ⟨s, rfl, hn⟩ := h
  have hs := hn
  obtain ⟨a, cap, rfl, hl, hc⟩ := hn
  have HS := hid hs
  clear hs hc
  go_enter Try.func38, Try.ntmps38
  go_wp2_with fail
  generalize hW : (w.alloc (.cells #[.int .u64 r.id, .int .u64 r.ver, .slice a r.vals.length cap] 30)).alloc (.cells #[.int .u64 0, .int .u64 0, .slice none 0 0] 30) = W
  have g0 : Nw w W := by rw [← hW]; exact ((Gr.alloc _ _).trans (Gr.alloc _ _)).nw
  have hz : W.heap.size = w.heap.size + 2 := by rw [← hW]; simp
  have b0 : W.heap[w.heap.size]? = some (.cells #[.int .u64 r.id, .int .u64 r.ver, .slice a r.vals.length cap] 30 (0, 0)) := by rw [← hW]; rw [Below.heap_alloc _ _ _ (by simp)]; exact heap_alloc_new w _
  have b1 : W.heap[w.heap.size + 1]? = some (.cells #[.int .u64 0, .int .u64 0, .slice none 0 0] 30 (0, 0)) := by rw [← hW]; have := heap_alloc_new (w.alloc (.cells #[.int .u64 r.id, .int .u64 r.ver, .slice a r.vals.length cap] 30)) (.cells #[.int .u64 0, .int .u64 0, .slice none 0 0] 30); rwa [World.size_alloc] at this
  clear hW
  refine (clone_u32 _ r.vals.length _ W (((HS.out.kp g0.to).src)) hm).mono ?_
  rintro e W1 ⟨v1, rfl, hown, g1⟩
  have b0' := g1.heap b0 (fun h => h)
  have b1' := g1.heap b1 (fun h => h)
  have hz1 : w.heap.size + 2 ≤ W1.heap.size := by have := g1.size; omega
  obtain ⟨hc0, hc1, hc2⟩ : W1.cell? ⟨w.heap.size, 0, none⟩ = some (.int .u64 r.id) ∧ W1.cell? ⟨w.heap.size, 1, none⟩ = some (.int .u64 r.ver) ∧ W1.cell? ⟨w.heap.size, 2, none⟩ = some (.slice a r.vals.length cap) := by simp [World.cell?, b0']
  obtain ⟨hd0, hd1, hd2⟩ : W1.cell? ⟨w.heap.size + 1, 0, none⟩ = some (.int .u64 0) ∧ W1.cell? ⟨w.heap.size + 1, 1, none⟩ = some (.int .u64 0) ∧ W1.cell? ⟨w.heap.size + 1, 2, none⟩ = some (.slice none 0 0) := by simp [World.cell?, b1']
  have hf : ∀ k, W1.frozen? ⟨w.heap.size, k, none⟩ = false := by simp [World.frozen?, b0']
  have hf1 : ∀ k, W1.frozen? ⟨w.heap.size + 1, k, none⟩ = false := by simp [World.frozen?, b1']
  have hcl := own_cells (X := fun _ => False) hown (fun _ _ h => h)
  obtain ⟨a', cap', rfl, hl', _⟩ := hcl
  have HO := hid hown
  have HG := hid (g0.trans g1)
  have HZ := hid hz
  clear hown g0 g1 b0 b1 b0' b1' hz
  go_wp2
  refine bodyPost_ret (v := .agg #[.int .u64 r.id, .int .u64 r.ver, .slice a' r.vals.length cap']) (by simp [results, Try.results38, go_sem, hd0, hd1, hd2]) rfl ⟨_, rfl, ?_, fun Y hY => ⟨_, rfl, ?_⟩⟩
  · exact Nw.setCell (Nw.setCell (Nw.setCell (Nw.setCell HG.out (by simp) _) (by simp) _) (by simp) _) (by simp) _
  · have hn : Nums (fun b => Y b ∨ b < W.heap.size) .u32 W1 (.slice a' r.vals.length cap') r.vals := own_nums HO.out (fun b hb h => h.elim (hY b (by have := HZ.out; omega)) (by omega))
    refine (hn.kp ((((Kp.refl _ W1).setCell (Or.inr ?_) _).setCell (Or.inr ?_) _).setCell (Or.inr ?_) _ |>.setCell (Or.inr ?_) _)).mono (fun b _ hb => Or.inl hb) <;> simp [HZ.out]

set_option maxHeartbeats 400000 in
theorem copyRec_any (X : Nat → Prop) (v : Value) (r : Rec) (w : World) (h : RecV X w v r) (hm : r.vals.length ≤ 1000000000000) :
    Calls Try.prog 44 #[v] w fun e w' => ∃ v', e = .returned v' ∧ Nw w w' ∧ ∀ Y, Fresh w.heap.size Y → RecV Y w' v' r := by
  obtain ⟨i0, hi, hz0, hz1, hz2⟩ := info_parts infoU32
  obtain ⟨s, rfl, hn⟩ := h
  have hs := hn
  obtain ⟨a, cap, rfl, hl, hc⟩ := hn
  have HS := hid hs
  clear hs hc
  go_enter Try.func44, Try.ntmps44
  go_wp2_with (at_builtin; refine wpList_app rfl _ _ 28 rfl (w.heap.size + 2) 39 i0 _ 1 4 Try.underlying28 hi hz0 hz1 hz2 rfl (by decide) (.slice none 0 0) 0 [] rfl (World.ownsRow_nil _ _ _ _) _ r.vals.length (rowsFrom (numC .u32) 0 r.vals) rfl ?qc1 ?qc2 ?qc3 ?qc4 ?_)
  case qc1 => exact SrcC.kp (X := fun _ => False) HS.out.src ((Gr.alloc _ _).trans (Gr.alloc _ _)).nw
  case qc2 => unfold maxLen; omega
  case qc3 => omega
  case qc4 => simp
  generalize hW : (w.alloc (.cells #[.int .u64 r.id, .int .u64 r.ver, .slice a r.vals.length cap] 30)).alloc (.cells #[.int .u64 0, .int .u64 0, .slice none 0 0] 30) = W
  have g0 : Nw w W := by rw [← hW]; exact ((Gr.alloc _ _).trans (Gr.alloc _ _)).nw
  have hz : W.heap.size = w.heap.size + 2 := by rw [← hW]; simp
  have b0 : W.heap[w.heap.size]? = some (.cells #[.int .u64 r.id, .int .u64 r.ver, .slice a r.vals.length cap] 30 (0, 0)) := by rw [← hW]; rw [Below.heap_alloc _ _ _ (by simp)]; exact heap_alloc_new w _
  have b1 : W.heap[w.heap.size + 1]? = some (.cells #[.int .u64 0, .int .u64 0, .slice none 0 0] 30 (0, 0)) := by rw [← hW]; have := heap_alloc_new (w.alloc (.cells #[.int .u64 r.id, .int .u64 r.ver, .slice a r.vals.length cap] 30)) (.cells #[.int .u64 0, .int .u64 0, .slice none 0 0] 30); rwa [World.size_alloc] at this
  clear hW
  intro v1 W1 hown1 hgrow hnil
  have g1 : Nw W W1 := (Nw.refl W).grown hgrow (by intro k hk; simp [Value.ownBlock] at hk)
  have hown : W1.ownsRow W.heap.size 39 1 v1 r.vals.length (rowsFrom (numC .u32) 0 r.vals) := by rw [hz]; simpa using hown1
  clear hown1 hgrow hnil
  have b0' := g1.heap b0 (fun h => h)
  have b1' := g1.heap b1 (fun h => h)
  have hz1 : w.heap.size + 2 ≤ W1.heap.size := by have := g1.size; omega
  obtain ⟨hc0, hc1, hc2⟩ : W1.cell? ⟨w.heap.size, 0, none⟩ = some (.int .u64 r.id) ∧ W1.cell? ⟨w.heap.size, 1, none⟩ = some (.int .u64 r.ver) ∧ W1.cell? ⟨w.heap.size, 2, none⟩ = some (.slice a r.vals.length cap) := by simp [World.cell?, b0']
  obtain ⟨hd0, hd1, hd2⟩ : W1.cell? ⟨w.heap.size + 1, 0, none⟩ = some (.int .u64 0) ∧ W1.cell? ⟨w.heap.size + 1, 1, none⟩ = some (.int .u64 0) ∧ W1.cell? ⟨w.heap.size + 1, 2, none⟩ = some (.slice none 0 0) := by simp [World.cell?, b1']
  have hf : ∀ k, W1.frozen? ⟨w.heap.size, k, none⟩ = false := by simp [World.frozen?, b0']
  have hf1 : ∀ k, W1.frozen? ⟨w.heap.size + 1, k, none⟩ = false := by simp [World.frozen?, b1']
  have hcl := own_cells (X := fun _ => False) hown (fun _ _ h => h)
  obtain ⟨a', cap', rfl, hl', _⟩ := hcl
  have HO := hid hown
  have HG := hid (g0.trans g1)
  have HZ := hid hz
  clear hown g0 g1 b0 b1 b0' b1' hz
  go_wp2
  refine bodyPost_ret (v := .agg #[.int .u64 r.id, .int .u64 r.ver, .slice a' r.vals.length cap']) (by simp [results, Try.results44, go_sem, hd0, hd1, hd2]) rfl ⟨_, rfl, ?_, fun Y hY => ⟨_, rfl, ?_⟩⟩
  · exact Nw.setCell (Nw.setCell (Nw.setCell (Nw.setCell HG.out (by simp) _) (by simp) _) (by simp) _) (by simp) _
  · have hn : Nums (fun b => Y b ∨ b < W.heap.size) .u32 W1 (.slice a' r.vals.length cap') r.vals := own_nums HO.out (fun b hb h => h.elim (hY b (by have := HZ.out; omega)) (by omega))
    refine (hn.kp ((((Kp.refl _ W1).setCell (Or.inr ?_) _).setCell (Or.inr ?_) _).setCell (Or.inr ?_) _ |>.setCell (Or.inr ?_) _)).mono (fun b _ hb => Or.inl hb) <;> simp [HZ.out]

end Go.Proofs.Ytkehhopdppampaa
