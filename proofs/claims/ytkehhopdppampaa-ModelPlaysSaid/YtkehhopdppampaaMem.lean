/-
  Mem: worlds that have grown; slices of numbers, of ranges and of records as they lie in memory; no program in sight.
-/
import Derived.Shelf.SlSortCmp.QuietGrown
import Derived.WalkKit
import Derived.WalkSmall
set_option linter.unusedVariables false
set_option linter.unusedSimpArgs false
namespace Go.Proofs.Ytkehhopdppampaa
open Go.RowKit Go.Sort

/-- A fact laid aside: the walk takes no rule out of it. -/
theorem hid {p : Prop} (h : p) : Hid p := h
theorem ret_bool {a b : Bool} (h : a = b) : Ending.returned (.bool a) = Ending.returned (.bool b) := by rw [h]
theorem ret_int {k : IntKind} {a b : Int} (h : a = b) : Ending.returned (.int k a) = Ending.returned (.int k b) := by rw [h]

/-- w' is w after some draws, with some blocks laid behind it. -/
def Gr (w w' : World) : Prop := ∃ q os, w' = grow (w.drewN q) os

theorem Gr.refl (w : World) : Gr w w := ⟨0, #[], by rw [grow_empty]; rfl⟩
theorem Gr.trans {a b c : World} (h : Gr a b) (k : Gr b c) : Gr a c := by
  obtain ⟨q, os, rfl⟩ := h
  obtain ⟨q', os', rfl⟩ := k
  exact ⟨q + q', os ++ os', by show grow (grow ((a.drewN q).drewN q') os) os' = _; rw [grow_grow, World.drewN_drewN]⟩
theorem Gr.alloc (w : World) (o : Obj) : Gr w (w.alloc o) := ⟨0, #[o], by rw [alloc_eq_grow]; rfl⟩
theorem Gr.drew (w : World) : Gr w w.drew := ⟨1, #[], by rw [grow_empty]; rfl⟩
theorem Gr.drewN (w : World) (n : Nat) : Gr w (w.drewN n) := ⟨n, #[], by rw [grow_empty]⟩
theorem Gr.grow (w : World) (n : Nat) (os : Array Obj) : Gr w (grow (w.drewN n) os) := ⟨n, os, rfl⟩
theorem Gr.below {w w' : World} (h : Gr w w') : Below w.heap.size w w' := by
  obtain ⟨q, os, rfl⟩ := h
  exact ⟨rfl, rfl, rfl, by simp, fun k hk => heap_grow_old (w.drewN q) os hk⟩
theorem Gr.size {w w' : World} (h : Gr w w') : w.heap.size ≤ w'.heap.size := h.below.size
theorem Gr.block {w w' : World} (h : Gr w w') {k : Nat} (hk : k < w.heap.size) : w'.heap[k]? = w.heap[k]? := h.below.block k hk
theorem Gr.heap {w w' : World} (h : Gr w w') {k : Nat} {o : Obj} (hk : w.heap[k]? = some o) : w'.heap[k]? = some o :=
  (h.block (Array.getElem?_eq_some_iff.1 hk).1).trans hk
theorem Gr.cell {w w' : World} (h : Gr w w') {a : Addr} {v : Value} (hc : w.cell? a = some v) : w'.cell? a = some v := by
  rw [h.below.cell (World.block_lt_of_cell? _ _ hc)]; exact hc
/-- A store into a block of its own: grown all the same. -/
theorem Gr.setCell {w w' : World} (h : Gr w w') {a : Addr} (ha : w.heap.size ≤ a.block) (ho : a.spot = none) (v : Value) : Gr w (w'.setCell a v) := by
  obtain ⟨q, os, rfl⟩ := h
  obtain ⟨blk, off, spot⟩ := a
  cases ho
  refine ⟨q, os.modify (blk - w.heap.size) (onCells (·.setIfInBounds off v)), ?_⟩
  rw [setCell_eq]
  exact mapBlock_grow_new (w.drewN q) os blk _ ha
/-- A callee's contract 'Gr', for a region whose class is 'grown'. -/
theorem Calls.gr_of {P : Program} {f : FuncId} {args : Array Value} {w : World} {n : Nat} {os : Array Obj} {v : Value}
    (h : Calls P f args (grow (w.drewN n) os) fun e w' => e = .returned v ∧ Gr (grow (w.drewN n) os) w') : Calls P f args (grow (w.drewN n) os) fun e w'' => e = .returned v ∧ ∃ p : GrownBy, w'' = grow (w.drewN p.n) p.os :=
  Calls.grown_of h


/-- w' is w, but for new blocks and for what the blocks of X hold. -/
structure Kp (X : Nat → Prop) (w w' : World) : Prop where
  os : w'.os = w.os
  tape : w'.tape = w.tape
  output : w'.output = w.output
  size : w.heap.size ≤ w'.heap.size
  block : ∀ k, k < w.heap.size → ¬ X k → w'.heap[k]? = w.heap[k]?

theorem Kp.refl (X : Nat → Prop) (w : World) : Kp X w w := ⟨rfl, rfl, rfl, Nat.le_refl _, fun _ _ _ => rfl⟩
theorem Kp.trans {X : Nat → Prop} {a b c : World} (h : Kp X a b) (k : Kp X b c) : Kp X a c :=
  ⟨k.os.trans h.os, k.tape.trans h.tape, k.output.trans h.output, Nat.le_trans h.size k.size, fun i hi hx => (k.block i (Nat.lt_of_lt_of_le hi h.size) hx).trans (h.block i hi hx)⟩
theorem Kp.mono {X Y : Nat → Prop} {w w' : World} (h : Kp X w w') (hXY : ∀ k, k < w.heap.size → X k → Y k) : Kp Y w w' :=
  ⟨h.os, h.tape, h.output, h.size, fun k hk hy => h.block k hk (fun hx => hy (hXY k hk hx))⟩
theorem Gr.kp {w w' : World} (h : Gr w w') (X : Nat → Prop) : Kp X w w' :=
  ⟨h.below.os, h.below.tape, h.below.output, h.size, fun _ hk _ => h.block hk⟩
theorem Kp.alloc {X : Nat → Prop} {a w : World} (h : Kp X a w) (o : Obj) : Kp X a (w.alloc o) := h.trans ((Gr.alloc w o).kp X)
theorem Kp.drew {X : Nat → Prop} {a w : World} (h : Kp X a w) : Kp X a w.drew := h.trans ((Gr.drew w).kp X)
theorem Kp.gr {X : Nat → Prop} {a w w' : World} (h : Kp X a w) (k : Gr w w') : Kp X a w' := h.trans (k.kp X)
theorem Kp.setCell {X : Nat → Prop} {a w : World} (h : Kp X a w) {p : Addr} (hp : X p.block) (v : Value) : Kp X a (w.setCell p v) :=
  ⟨h.os, h.tape, h.output, Nat.le_trans h.size (by simp [World.setCell]), fun k hk hx => by rw [Below.heap_setCell _ _ _ _ (fun e => hx (by rw [e]; exact hp))]; exact h.block k hk hx⟩
theorem Kp.of_grownBy {w w' : World} {row : Option Nat} (h : w.grownBy w' row) : Kp (fun k => row = some k) w w' :=
  ⟨h.os, h.tape, h.output, h.size, fun k hk hx => h.block k hk (fun e => hx e.symm)⟩
theorem Kp.below {X : Nat → Prop} {w w' : World} (h : Kp X w w') {B : Nat} (hB : B ≤ w.heap.size) (hX : ∀ k, k < B → ¬ X k) : Below B w w' :=
  ⟨h.os, h.tape, h.output, h.size, fun k hk => h.block k (by omega) (hX k hk)⟩
theorem Kp.of_below {B : Nat} {w w' : World} (h : Below B w w') : Kp (fun k => B ≤ k) w w' :=
  ⟨h.os, h.tape, h.output, h.size, fun k _ hx => h.block k (by omega)⟩
theorem Kp.heap {X : Nat → Prop} {w w' : World} (h : Kp X w w') {k : Nat} {o : Obj} (hk : w.heap[k]? = some o) (hx : ¬ X k) : w'.heap[k]? = some o :=
  (h.block k (Array.getElem?_eq_some_iff.1 hk).1 hx).trans hk
theorem Kp.cell {X : Nat → Prop} {w w' : World} (h : Kp X w w') {a : Addr} {v : Value} (hc : w.cell? a = some v) (hx : ¬ X a.block) : w'.cell? a = some v := by
  have := h.block a.block (World.block_lt_of_cell? _ _ hc) hx
  simp only [World.cell?, this]
  exact hc
theorem Kp.frozen {X : Nat → Prop} {w w' : World} (h : Kp X w w') {a : Addr} (ha : a.block < w.heap.size) (hx : ¬ X a.block) : w'.frozen? a = w.frozen? a := by
  have := h.block a.block ha hx
  simp only [World.frozen?, this]

/-! ### plain data -/
/-- An element of a list of numbers (a plain word: no rule of simp opens it). -/
def gx (l : List Int) (i : Nat) : Int := l.getD i 0
structure Rng where
  kind : Int
  lo : Int
  hi : Int
structure Rec where
  id : Int
  ver : Int
  vals : List Int
instance : Inhabited Rng := ⟨⟨0, 0, 0⟩⟩
instance : Inhabited Rec := ⟨⟨0, 0, []⟩⟩
def bx (l : List Rng) (i : Nat) : Rng := l.getD i ⟨0, 0, 0⟩
def rx (l : List Rec) (i : Nat) : Rec := l.getD i ⟨0, 0, []⟩
theorem gx_get {l : List Int} {i : Nat} (h : i < l.length) : gx l i = l[i] := by simp [gx, h]
theorem bx_get {l : List Rng} {i : Nat} (h : i < l.length) : bx l i = l[i] := by simp [bx, h]
theorem rx_get {l : List Rec} {i : Nat} (h : i < l.length) : rx l i = l[i] := by simp [rx, h]

/-- The value v is a slice of the numbers l, of kind k; none of its cells lies in a block of X. -/
def Nums (X : Nat → Prop) (k : IntKind) (w : World) (v : Value) (l : List Int) : Prop :=
  ∃ a cap, v = .slice a l.length cap ∧ l.length ≤ cap ∧ (0 < l.length → ∃ b o, a = some ⟨b, o, none⟩ ∧ ¬ X b ∧ ∀ j, j < l.length → w.cell? ⟨b, o + j, none⟩ = some (.int k (gx l j)))
/-- .. of the ranges l. -/
def Rngs (X : Nat → Prop) (w : World) (v : Value) (l : List Rng) : Prop :=
  ∃ a cap, v = .slice a l.length cap ∧ l.length ≤ cap ∧ (0 < l.length → ∃ b o, a = some ⟨b, o, none⟩ ∧ ¬ X b ∧ ∀ j, j < l.length →
    w.cell? ⟨b, o + j * 3, none⟩ = some (.int .i64 (bx l j).kind) ∧ w.cell? ⟨b, o + j * 3 + 1, none⟩ = some (.int .u32 (bx l j).lo) ∧ w.cell? ⟨b, o + j * 3 + 2, none⟩ = some (.int .u32 (bx l j).hi))
/-- A record as a value. -/
def RecV (X : Nat → Prop) (w : World) (v : Value) (r : Rec) : Prop := ∃ s, v = .agg #[.int .u64 r.id, .int .u64 r.ver, s] ∧ Nums X .u32 w s r.vals
/-- .. of the records l. -/
def Recs (X : Nat → Prop) (w : World) (v : Value) (l : List Rec) : Prop :=
  ∃ a cap, v = .slice a l.length cap ∧ l.length ≤ cap ∧ (0 < l.length → ∃ b o, a = some ⟨b, o, none⟩ ∧ ¬ X b ∧ ∀ j, j < l.length →
    ∃ s, w.cell? ⟨b, o + j * 3, none⟩ = some (.int .u64 (rx l j).id) ∧ w.cell? ⟨b, o + j * 3 + 1, none⟩ = some (.int .u64 (rx l j).ver) ∧ w.cell? ⟨b, o + j * 3 + 2, none⟩ = some s ∧ Nums X .u32 w s (rx l j).vals)

section
variable {X : Nat → Prop} {w w' : World}
theorem Nums.kp {k : IntKind} {v : Value} {l : List Int} (h : Nums X k w v l) (hk : Kp X w w') : Nums X k w' v l := by
  obtain ⟨a, cap, hv, hl, h⟩ := h
  refine ⟨a, cap, hv, hl, fun hp => ?_⟩
  obtain ⟨b, o, ha, hx, hc⟩ := h hp
  exact ⟨b, o, ha, hx, fun j hj => hk.cell (hc j hj) hx⟩
theorem Rngs.kp {v : Value} {l : List Rng} (h : Rngs X w v l) (hk : Kp X w w') : Rngs X w' v l := by
  obtain ⟨a, cap, hv, hl, h⟩ := h
  refine ⟨a, cap, hv, hl, fun hp => ?_⟩
  obtain ⟨b, o, ha, hx, hc⟩ := h hp
  exact ⟨b, o, ha, hx, fun j hj => ⟨hk.cell (hc j hj).1 hx, hk.cell (hc j hj).2.1 hx, hk.cell (hc j hj).2.2 hx⟩⟩
theorem RecV.kp {v : Value} {r : Rec} (h : RecV X w v r) (hk : Kp X w w') : RecV X w' v r := by
  obtain ⟨s, hv, hn⟩ := h
  exact ⟨s, hv, hn.kp hk⟩
theorem Recs.kp {v : Value} {l : List Rec} (h : Recs X w v l) (hk : Kp X w w') : Recs X w' v l := by
  obtain ⟨a, cap, hv, hl, h⟩ := h
  refine ⟨a, cap, hv, hl, fun hp => ?_⟩
  obtain ⟨b, o, ha, hx, hc⟩ := h hp
  refine ⟨b, o, ha, hx, fun j hj => ?_⟩
  obtain ⟨s, h0, h1, h2, h3⟩ := hc j hj
  exact ⟨s, hk.cell h0 hx, hk.cell h1 hx, hk.cell h2 hx, h3.kp hk⟩
theorem Nums.gr {k : IntKind} {v : Value} {l : List Int} (h : Nums X k w v l) (hk : Gr w w') : Nums X k w' v l := h.kp (hk.kp X)
theorem Rngs.gr {v : Value} {l : List Rng} (h : Rngs X w v l) (hk : Gr w w') : Rngs X w' v l := h.kp (hk.kp X)
theorem RecV.gr {v : Value} {r : Rec} (h : RecV X w v r) (hk : Gr w w') : RecV X w' v r := h.kp (hk.kp X)
theorem Recs.gr {v : Value} {l : List Rec} (h : Recs X w v l) (hk : Gr w w') : Recs X w' v l := h.kp (hk.kp X)
/-- Another set of blocks: what lies in w lies outside it, too. -/
theorem Nums.mono {Y : Nat → Prop} {k : IntKind} {v : Value} {l : List Int} (h : Nums X k w v l) (hY : ∀ b, b < w.heap.size → Y b → X b) : Nums Y k w v l := by
  obtain ⟨a, cap, hv, hl, h⟩ := h
  refine ⟨a, cap, hv, hl, fun hp => ?_⟩
  obtain ⟨b, o, ha, hx, hc⟩ := h hp
  exact ⟨b, o, ha, fun hy => hx (hY b (World.block_lt_of_cell? _ _ (hc 0 hp)) hy), hc⟩
theorem Rngs.mono {Y : Nat → Prop} {v : Value} {l : List Rng} (h : Rngs X w v l) (hY : ∀ b, b < w.heap.size → Y b → X b) : Rngs Y w v l := by
  obtain ⟨a, cap, hv, hl, h⟩ := h
  refine ⟨a, cap, hv, hl, fun hp => ?_⟩
  obtain ⟨b, o, ha, hx, hc⟩ := h hp
  exact ⟨b, o, ha, fun hy => hx (hY b (World.block_lt_of_cell? _ _ (hc 0 hp).1) hy), hc⟩
theorem RecV.mono {Y : Nat → Prop} {v : Value} {r : Rec} (h : RecV X w v r) (hY : ∀ b, b < w.heap.size → Y b → X b) : RecV Y w v r := by
  obtain ⟨s, hv, hn⟩ := h
  exact ⟨s, hv, hn.mono hY⟩
theorem Recs.mono {Y : Nat → Prop} {v : Value} {l : List Rec} (h : Recs X w v l) (hY : ∀ b, b < w.heap.size → Y b → X b) : Recs Y w v l := by
  obtain ⟨a, cap, hv, hl, h⟩ := h
  refine ⟨a, cap, hv, hl, fun hp => ?_⟩
  obtain ⟨b, o, ha, hx, hc⟩ := h hp
  obtain ⟨s, h0, _⟩ := hc 0 hp
  refine ⟨b, o, ha, fun hy => hx (hY b (World.block_lt_of_cell? _ _ h0) hy), fun j hj => ?_⟩
  obtain ⟨s, h0, h1, h2, h3⟩ := hc j hj
  exact ⟨s, h0, h1, h2, h3.mono hY⟩
end

end Go.Proofs.Ytkehhopdppampaa
