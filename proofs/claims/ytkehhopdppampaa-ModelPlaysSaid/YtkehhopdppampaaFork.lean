/-
  Fork: maps.Clone of a map of records; gather.Fork.
-/
import Derived.Test.YtkehhopdppampaaPages
import Derived.Shelf.SlMaps.Clone
import Derived.Deep.RegionHeld3
namespace Go.Proofs.Ytkehhopdppampaa
set_option linter.unusedVariables false
set_option linter.unusedSimpArgs false
open Go.RowKit Go.Sort Go.Maps

set_option maxRecDepth 100000 in
set_option maxHeartbeats 1000000 in
theorem mclone_any (b : Nat) (es : Array MapEntry) (clock : Nat) (w : World) (hb : w.heap[b]? = some (.map es clock)) :
    Calls Try.prog 43 #[.map (some b)] w fun e w' => e = .returned (.map (some w.heap.size)) ∧ w' = w.alloc (.map es clock) := by
  have qm := map_nonnil b
  go_enter Try.func43, Try.ntmps43
  go_wp2
  rw [run_callFunc_extern Try.func60 (by kernel_rfl) (by kernel_rfl) (by kernel_rfl) (e := Extern.MapsClone.clone) (by kernel_rfl), run_maps_clone_sl w 75 hb]
  simp only [Result.andThen]
  rw [Oper.upon_value]
  go_wp2
  rw [run_typeAssert_map_sl _ 75 20 _ _ _ Try.underlying75]
  simp only [Result.andThen]
  rw [Oper.upon_value]
  go_wp2
  go_ret
  exact ⟨rfl, rfl⟩

set_option maxRecDepth 100000 in
set_option maxHeartbeats 1000000 in
theorem fork_any (X : Nat → Prop) (p mb : Nat) (box : List Rng) (R : List Rec) (w : World) (hG : GRep X w p mb box R) :
    Calls Try.prog 20 #[.pointer (some ⟨p, 0, none⟩)] w fun e w' => ∃ p2 mb2, e = .returned (.pointer (some ⟨p2, 0, none⟩)) ∧ Nw w w' ∧ w.heap.size ≤ p2 ∧ w.heap.size ≤ mb2 ∧ p2 < w'.heap.size ∧ mb2 < w'.heap.size ∧ p2 ≠ mb2 ∧
      GRep (fun b => X b ∨ w.heap.size ≤ b) w' p2 mb2 box R := by
  have hm := mixed
  obtain ⟨vb, L, hb, hr, hL, ht⟩ := hG
  obtain ⟨es, clock, hmb, F, hs, hD⟩ := hL
  have p0 : w.cell? ⟨p, 0, none⟩ = some vb := by simp [World.cell?, hb]
  have p1 : w.cell? ⟨p, 1, none⟩ = some (.map (some mb)) := by simp [World.cell?, hb]
  have HMB := hid hmb
  have HR := hid hr
  have HT := hid ht
  have HF := hid F
  have HS := hid hs
  have HD := hid hD
  obtain ⟨ba, bc, rfl, _, _⟩ := hr
  clear hb hmb ht F hs hD
  go_enter Try.func20, Try.ntmps20
  go_wp2_with fail
  go_region_held3 (fun w' => w'.cell? ⟨p, 0, none⟩ = some (.slice ba box.length bc) ∧ w'.cell? ⟨p, 1, none⟩ = some (.map (some mb)))
    (first
      | go_keep
      | exact ⟨((Gr.drew w).trans (Gr.alloc _ _)).cell p0, ((Gr.drew w).trans (Gr.alloc _ _)).cell p1⟩
      | exact ⟨(((Gr.drew w).trans (Gr.alloc _ _)).trans (Gr.alloc _ _)).cell p0, (((Gr.drew w).trans (Gr.alloc _ _)).trans (Gr.alloc _ _)).cell p1⟩)
    (first
      | (go_at_call 43; refine (mclone_any mb es clock _ ((Gr.drew w).heap HMB.out)).mono ?_; rintro e W2 ⟨rfl, rfl⟩))
  go_wp2
  go_ret
  have g : Nw w (((w.alloc (.map es clock)).alloc (.cells #[.slice ba box.length bc, .map (some w.heap.size)] 77)).drew) := (((Gr.alloc w _).trans (Gr.alloc _ _)).trans (Gr.drew _)).nw
  refine ⟨w.heap.size + 1, w.heap.size, rfl, g, by omega, Nat.le_refl _, ?_, ?_, by omega, _, L, ?_, (HR.out.mono (fun b hb h => h.elim id (fun h => by omega))).kp (Nw.to g), ⟨es, clock, ?_, HF.out, HS.out, HD.out⟩, (HT.out.mono (fun b hb h => h.elim id (fun h => by omega))).kp (Nw.to g)⟩
  · show w.heap.size + 1 < ((w.alloc _).alloc _).heap.size
    rw [World.size_alloc, World.size_alloc]; omega
  · show w.heap.size < ((w.alloc _).alloc _).heap.size
    rw [World.size_alloc, World.size_alloc]; omega
  · have := heap_alloc_new (w.alloc (.map es clock)) (.cells #[.slice ba box.length bc, .map (some w.heap.size)] 77)
    rw [World.size_alloc] at this
    exact this
  · have := heap_alloc_new w (.map es clock)
    exact (Gr.alloc (w.alloc (.map es clock)) _).heap this

end Go.Proofs.Ytkehhopdppampaa
