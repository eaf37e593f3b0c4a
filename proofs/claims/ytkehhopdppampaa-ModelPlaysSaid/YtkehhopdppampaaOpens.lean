/-
  Opens: what an argument reads as, as plain data: slices of numbers, of ranges, of records, of slices of records.
-/
import Derived.Test.YtkehhopdppampaaGath
import Derived.ProofKit
import Derived.OpenShut
import Derived.Carry
import Derived.Deep.Slices
import Derived.Deep.Strs
namespace Go.Proofs.Ytkehhopdppampaa
set_option linter.unusedVariables false
set_option linter.unusedSimpArgs false
open Go.ChangeShapes Go.WideShapes Go.ChangeAt Go.RowKit Go.Sort Go.Maps

theorem wf64 {n : Int} (h : (Lit.int .u64 n).wf = true) : W64 n := by
  have h2 : (decide (IntKind.u64.min ≤ n) && decide (n ≤ IntKind.u64.max)) = true := h
  rw [show IntKind.u64.min = 0 from rfl, show IntKind.u64.max = 18446744073709551615 from by decide] at h2
  simp at h2
  exact ⟨h2.1, by omega⟩
theorem wf32 {n : Int} (h : (Lit.int .u32 n).wf = true) : W32 n := by
  have h2 : (decide (IntKind.u32.min ≤ n) && decide (n ≤ IntKind.u32.max)) = true := h
  rw [show IntKind.u32.min = 0 from rfl, show IntKind.u32.max = 4294967295 from by decide] at h2
  simp at h2
  exact ⟨h2.1, by omega⟩

/-- The blocks that are not there yet. -/
def Old (W : World) : Nat → Prop := fun b => W.heap.size ≤ b
theorem old_of_cell {W : World} {a : Addr} {v : Value} (h : W.cell? a = some v) : ¬ Old W a.block := fun e => by
  have := World.block_lt_of_cell? _ _ h
  unfold Old at e
  omega

section
variable {H : Type} {enc : TypeId × Value → H} {W : World} {sp : Nat → Bool} {hd : Bool} {fuel : Nat}

theorem int_cell1 {P : Program} {base : Nat} {t : TypeId} {k : IntKind} {c : Value} {y : DataW H × List MemPlace}
    (ht : P.underlying t = some (.int k)) (h : DataW.trod enc P W base sp hd fuel t [c] = some y) : ∃ n, c = .int k n ∧ (Lit.int k n).wf = true := by
  cases fuel with
  | zero => simp [DataW.trod] at h
  | succ fuel =>
    cases c <;> simp [DataW.trod, ht] at h
    rename_i k' n
    obtain ⟨⟨rfl, hw⟩, rfl⟩ := h
    exact ⟨n, rfl, hw⟩
theorem int_cellP {P : Program} {base : Nat} {t : TypeId} {k : IntKind} {l : List Value} {y : DataW H × List MemPlace}
    (ht : P.underlying t = some (.int k)) (h : DataW.trod enc P W base sp hd fuel t l = some y) : ∃ n, l = [.int k n] ∧ (Lit.int k n).wf = true := by
  match l, h with
  | [c], h =>
    obtain ⟨n, rfl, hw⟩ := int_cell1 ht h
    exact ⟨n, rfl, hw⟩
  | [], h => cases fuel <;> simp [DataW.trod, ht] at h
  | _ :: _ :: _, h => cases fuel <;> simp [DataW.trod, ht] at h
theorem int_cell {t : TypeId} {k : IntKind} {l : List Value} {y : DataW H × List MemPlace}
    (ht : Try.prog.underlying t = some (.int k)) (h : DataW.trod enc Try.prog W 0 sp hd fuel t l = some y) : ∃ n, l = [.int k n] ∧ (Lit.int k n).wf = true := int_cellP ht h

/-- A slice whose elements are of so many cells. -/
theorem slice_cells {t e : TypeId} {size : Nat} {cs : List Value} {x : DataW H × List MemPlace} (ht : Try.prog.underlying t = some (.slice e)) (hc : Try.prog.cellsOf e = size) (hs : 0 < size)
    (h : DataW.trod enc Try.prog W 0 (fun _ => true) hd fuel t cs = some x) :
    ∃ a len cap, cs = [.slice a len cap] ∧ len ≤ cap ∧ len ≤ 9223372036854775807 ∧ (0 < len → ∃ b o, a = some ⟨b, o, none⟩ ∧ ¬ Old W b ∧ ∀ j, j < len → ∃ cs' n y, cs'.length = size ∧ (∀ c, c < size → W.cell? ⟨b, o + j * size + c, none⟩ = cs'[c]?) ∧ DataW.trod enc Try.prog W 0 (fun _ => true) hd n e cs' = some y) := by
  rcases Deep.open_slice ht h with ⟨rfl, rfl⟩ | ⟨a, len, cap, m, n, D, Pl, rfl, hb, hl, hm, hmm, rfl, hx⟩
  · exact ⟨none, 0, 0, rfl, Nat.le_refl _, by omega, fun h => absurd h (by omega)⟩
  · refine ⟨some a, len, cap, rfl, hl, by unfold maxLen at hm; omega, fun hp => ?_⟩
    simp only [if_true] at hmm
    obtain ⟨cs0, h0, _⟩ := hx 0 (by omega)
    obtain ⟨_, hl0, hc0⟩ := World.cells?_some h0
    obtain ⟨b, o, spot⟩ := a
    have e0 : W.cell? ⟨b, o, spot⟩ = cs0[0]? := by
      have := hc0 0 (by omega)
      simpa [Addr.add] using this
    have e1 : ∃ u, cs0[0]? = some u := ⟨cs0[0], by rw [List.getElem?_eq_getElem]⟩
    obtain ⟨u, hu⟩ := e1
    rw [hu] at e0
    have hsp : spot = none := by simpa using World.cell?_spot e0
    subst hsp
    refine ⟨b, o, rfl, old_of_cell e0, fun j hj => ?_⟩
    obtain ⟨cs', h1, h2⟩ := hx j (by omega)
    obtain ⟨_, hl1, hc1⟩ := World.cells?_some h1
    rw [hc] at hl1 hc1
    refine ⟨cs', n, _, hl1, fun c hcl => ?_, h2⟩
    rw [← hc1 c hcl]
    simp [addr_add]

theorem opened_nums {t e : TypeId} {k : IntKind} {cs : List Value} {x : DataW H × List MemPlace} (ht : Try.prog.underlying t = some (.slice e)) (he : Try.prog.underlying e = some (.int k)) (hc : Try.prog.cellsOf e = 1)
    (h : DataW.trod enc Try.prog W 0 (fun _ => true) hd fuel t cs = some x) : ∃ v l, cs = [v] ∧ Nums (Old W) k W v l ∧ l.length ≤ 9223372036854775807 ∧ ∀ j, j < l.length → (Lit.int k (gx l j)).wf = true := by
  obtain ⟨a, len, cap, rfl, hl, hm, hx⟩ := slice_cells ht hc (by omega) h
  by_cases hp : 0 < len
  · obtain ⟨b, o, rfl, hb, hx⟩ := hx hp
    have hf : ∀ j, j < len → ∃ z : Int, W.cell? ⟨b, o + j, none⟩ = some (.int k z) ∧ (Lit.int k z).wf = true := fun j hj => by
      obtain ⟨cs', n, y, h1, h2, h3⟩ := hx j hj
      obtain ⟨z, rfl, hw⟩ := int_cell he h3
      exact ⟨z, by simpa using h2 0 (by omega), hw⟩
    obtain ⟨f, hf⟩ := Deep.choose_lt hf
    have hlen : ((List.range len).map f).length = len := by simp
    have hg : ∀ j, j < len → gx ((List.range len).map f) j = f j := fun j hj => by rw [gx_get (by simpa using hj)]; simp
    refine ⟨_, (List.range len).map f, rfl, ⟨some ⟨b, o, none⟩, cap, by rw [hlen], by omega, fun _ => ⟨b, o, rfl, hb, fun j hj => ?_⟩⟩, by omega, fun j hj => ?_⟩
    · rw [hg j (by omega)]; exact (hf j (by omega)).1
    · rw [hg j (by omega)]; exact (hf j (by omega)).2
  · obtain rfl : len = 0 := by omega
    exact ⟨_, [], rfl, ⟨a, cap, rfl, by simp, fun h => absurd h (by simp)⟩, by simp, fun j hj => absurd hj (by simp)⟩

theorem cellsRange : Try.prog.cellsOf 41 = 3 := by kernel_rfl
theorem cellsU32 : Try.prog.cellsOf 39 = 1 := by kernel_rfl
theorem cellsU64 : Try.prog.cellsOf 27 = 1 := by kernel_rfl
theorem cellsInt : Try.prog.cellsOf 3 = 1 := by kernel_rfl
theorem cellsRec : Try.prog.cellsOf 30 = 3 := by kernel_rfl
theorem cellsVals : Try.prog.cellsOf 28 = 1 := by kernel_rfl
theorem cellsRecs : Try.prog.cellsOf 23 = 1 := by kernel_rfl

theorem three {cs : List Value} (h : cs.length = 3) : ∃ a b c, cs = [a, b, c] := by
  match cs, h with
  | [a, b, c], _ => exact ⟨a, b, c, rfl⟩

/-- A range, as three cells. -/
theorem range_cells {cs : List Value} {y : DataW H × List MemPlace} (h : DataW.trod enc Try.prog W 0 sp hd fuel 41 cs = some y) : ∃ r : Rng, cs = [.int .i64 r.kind, .int .u32 r.lo, .int .u32 r.hi] ∧ WfR r := by
  obtain ⟨y0, y1, y2, n, _, hl, h0, h1, h2⟩ := Deep.trod_struct3 Try.underlying41 h
  rw [cellsRange] at hl
  obtain ⟨a, b, c, rfl⟩ := three hl
  simp only [cellsInt, cellsU32, List.drop_zero, List.drop_succ_cons, List.take_succ_cons, List.take_zero] at h0 h1 h2
  obtain ⟨z0, e0, _⟩ := int_cell Try.underlying3 h0
  obtain ⟨z1, e1, w1⟩ := int_cell Try.underlying39 h1
  obtain ⟨z2, e2, w2⟩ := int_cell Try.underlying39 h2
  cases e0; cases e1; cases e2
  exact ⟨⟨z0, z1, z2⟩, rfl, wf32 w1, wf32 w2⟩
/-- A record, as three cells. -/
theorem rec_cells {cs : List Value} {y : DataW H × List MemPlace} (h : DataW.trod enc Try.prog W 0 (fun _ => true) hd fuel 30 cs = some y) :
    ∃ (r : Rec) (s : Value), cs = [.int .u64 r.id, .int .u64 r.ver, s] ∧ Nums (Old W) .u32 W s r.vals ∧ W64 r.id ∧ W64 r.ver ∧ WfV r.vals := by
  obtain ⟨y0, y1, y2, n, _, hl, h0, h1, h2⟩ := Deep.trod_struct3 Try.underlying30 h
  rw [cellsRec] at hl
  obtain ⟨a, b, c, rfl⟩ := three hl
  simp only [cellsU64, cellsVals, List.drop_zero, List.drop_succ_cons, List.take_succ_cons, List.take_zero] at h0 h1 h2
  obtain ⟨z0, e0, w0⟩ := int_cell Try.underlying27 h0
  obtain ⟨z1, e1, w1⟩ := int_cell Try.underlying27 h1
  obtain ⟨s, l, e2, hn, _, hw⟩ := opened_nums Try.underlying28 Try.underlying39 cellsU32 h2
  cases e0; cases e1; cases e2
  exact ⟨⟨z0, z1, l⟩, _, rfl, hn, wf64 w0, wf64 w1, fun j hj => wf32 (hw j hj)⟩

theorem opened_rngs {cs : List Value} {x : DataW H × List MemPlace} (h : DataW.trod enc Try.prog W 0 (fun _ => true) hd fuel 22 cs = some x) :
    ∃ v l, cs = [v] ∧ Rngs (Old W) W v l ∧ l.length ≤ 9223372036854775807 ∧ WfB l := by
  obtain ⟨a, len, cap, rfl, hl, hm, hx⟩ := slice_cells Try.underlying22 cellsRange (by omega) h
  by_cases hp : 0 < len
  · obtain ⟨b, o, rfl, hb, hx⟩ := hx hp
    have hf : ∀ j, j < len → ∃ r : Rng, (W.cell? ⟨b, o + j * 3, none⟩ = some (.int .i64 r.kind) ∧ W.cell? ⟨b, o + j * 3 + 1, none⟩ = some (.int .u32 r.lo) ∧ W.cell? ⟨b, o + j * 3 + 2, none⟩ = some (.int .u32 r.hi)) ∧ WfR r := fun j hj => by
      obtain ⟨cs', n, y, h1, h2, h3⟩ := hx j hj
      obtain ⟨r, rfl, hw⟩ := range_cells h3
      exact ⟨r, ⟨h2 0 (by omega), h2 1 (by omega), h2 2 (by omega)⟩, hw⟩
    obtain ⟨f, hf⟩ := Deep.choose_lt hf
    have hlen : ((List.range len).map f).length = len := by simp
    have hg : ∀ j, j < len → bx ((List.range len).map f) j = f j := fun j hj => by rw [bx_get (by simpa using hj)]; simp
    refine ⟨_, (List.range len).map f, rfl, ⟨some ⟨b, o, none⟩, cap, by rw [hlen], by omega, fun _ => ⟨b, o, rfl, hb, fun j hj => ?_⟩⟩, by omega, fun j hj => ?_⟩
    · rw [hg j (by omega)]; exact (hf j (by omega)).1
    · rw [hg j (by omega)]; exact (hf j (by omega)).2
  · obtain rfl : len = 0 := by omega
    exact ⟨_, [], rfl, ⟨a, cap, rfl, by simp, fun h => absurd h (by simp)⟩, by simp, fun j hj => absurd hj (by simp)⟩

/-- A record from outside: its numbers fit their kinds. -/
def WfIn (r : Rec) : Prop := W64 r.id ∧ W64 r.ver ∧ WfV r.vals
theorem opened_recs {cs : List Value} {x : DataW H × List MemPlace} (h : DataW.trod enc Try.prog W 0 (fun _ => true) hd fuel 23 cs = some x) :
    ∃ v l, cs = [v] ∧ Recs (Old W) W v l ∧ l.length ≤ 9223372036854775807 ∧ ∀ j, j < l.length → WfIn (rx l j) := by
  obtain ⟨a, len, cap, rfl, hl, hm, hx⟩ := slice_cells Try.underlying23 cellsRec (by omega) h
  by_cases hp : 0 < len
  · obtain ⟨b, o, rfl, hb, hx⟩ := hx hp
    have hf : ∀ j, j < len → ∃ r : Rec, (∃ s, W.cell? ⟨b, o + j * 3, none⟩ = some (.int .u64 r.id) ∧ W.cell? ⟨b, o + j * 3 + 1, none⟩ = some (.int .u64 r.ver) ∧ W.cell? ⟨b, o + j * 3 + 2, none⟩ = some s ∧ Nums (Old W) .u32 W s r.vals) ∧ WfIn r := fun j hj => by
      obtain ⟨cs', n, y, h1, h2, h3⟩ := hx j hj
      obtain ⟨r, s, rfl, hn, hw0, hw1, hw2⟩ := rec_cells h3
      exact ⟨r, ⟨s, h2 0 (by omega), h2 1 (by omega), h2 2 (by omega), hn⟩, hw0, hw1, hw2⟩
    obtain ⟨f, hf⟩ := Deep.choose_lt hf
    have hlen : ((List.range len).map f).length = len := by simp
    have hg : ∀ j, j < len → rx ((List.range len).map f) j = f j := fun j hj => by rw [rx_get (by simpa using hj)]; simp
    refine ⟨_, (List.range len).map f, rfl, ⟨some ⟨b, o, none⟩, cap, by rw [hlen], by omega, fun _ => ⟨b, o, rfl, hb, fun j hj => ?_⟩⟩, by omega, fun j hj => ?_⟩
    · rw [hg j (by omega)]; exact (hf j (by omega)).1
    · rw [hg j (by omega)]; exact (hf j (by omega)).2
  · obtain rfl : len = 0 := by omega
    exact ⟨_, [], rfl, ⟨a, cap, rfl, by simp, fun h => absurd h (by simp)⟩, by simp, fun j hj => absurd hj (by simp)⟩

/-- A slice of slices of records. -/
def Recss (X : Nat → Prop) (w : World) (v : Value) (ls : List (List Rec)) : Prop :=
  ∃ a cap, v = .slice a ls.length cap ∧ ls.length ≤ cap ∧ (0 < ls.length → ∃ b o, a = some ⟨b, o, none⟩ ∧ ¬ X b ∧ ∀ j, j < ls.length → ∃ u, w.cell? ⟨b, o + j, none⟩ = some u ∧ Recs X w u (ls.getD j []))
theorem opened_recss {cs : List Value} {x : DataW H × List MemPlace} (h : DataW.trod enc Try.prog W 0 (fun _ => true) hd fuel 46 cs = some x) :
    ∃ v ls, cs = [v] ∧ Recss (Old W) W v ls ∧ ls.length ≤ 9223372036854775807 ∧ ∀ j, j < ls.length → (ls.getD j []).length ≤ 9223372036854775807 ∧ ∀ i, i < (ls.getD j []).length → WfIn (rx (ls.getD j []) i) := by
  obtain ⟨a, len, cap, rfl, hl, hm, hx⟩ := slice_cells Try.underlying46 cellsRecs (by omega) h
  by_cases hp : 0 < len
  · obtain ⟨b, o, rfl, hb, hx⟩ := hx hp
    have hf : ∀ j, j < len → ∃ l : List Rec, (∃ u, W.cell? ⟨b, o + j, none⟩ = some u ∧ Recs (Old W) W u l) ∧ l.length ≤ 9223372036854775807 ∧ ∀ i, i < l.length → WfIn (rx l i) := fun j hj => by
      obtain ⟨cs', n, y, h1, h2, h3⟩ := hx j hj
      obtain ⟨v, l, rfl, hr, hw0, hw1⟩ := opened_recs h3
      exact ⟨l, ⟨v, by simpa using h2 0 (by omega), hr⟩, hw0, hw1⟩
    obtain ⟨f, hf⟩ := Deep.choose_lt hf
    have hlen : ((List.range len).map f).length = len := by simp
    have hg : ∀ j, j < len → ((List.range len).map f).getD j [] = f j := fun j hj => by simp [hj]
    refine ⟨_, (List.range len).map f, rfl, ⟨some ⟨b, o, none⟩, cap, by rw [hlen], by omega, fun _ => ⟨b, o, rfl, hb, fun j hj => ?_⟩⟩, by omega, fun j hj => ?_⟩
    · rw [hg j (by omega)]; exact (hf j (by omega)).1
    · rw [hg j (by omega)]; exact (hf j (by omega)).2
  · obtain rfl : len = 0 := by omega
    exact ⟨_, [], rfl, ⟨a, cap, rfl, by simp, fun h => absurd h (by simp)⟩, by simp, fun j hj => absurd hj (by simp)⟩
end
end Go.Proofs.Ytkehhopdppampaa
