/-
  Lists: a list of records in a row of the call's own, beside its records' values; appends to it; no function in sight.
-/
import Derived.Test.YtkehhopdppampaaPage
import Derived.Test.YtkehhopdppampaaAwake
import Derived.Test.YtkehhopdppampaaSame
namespace Go.Proofs.Ytkehhopdppampaa
set_option linter.unusedVariables false
set_option linter.unusedSimpArgs false
open Go.RowKit Go.Sort Go.Maps

/-- v is a row of the call's own (its block is B or behind it) that holds the records l; their values lie outside X and outside the row. -/
def Lst (B : Nat) (X : Nat → Prop) (w : World) (v : Value) (l : List Rec) : Prop :=
  ∃ S : Nat → Value, w.ownsRow B 30 3 v l.length (rowsFrom (recC S) 0 l) ∧ ∀ j, j < l.length → Nums (fun b => X b ∨ v.ownBlock = some b) .u32 w (S j) (rx l j).vals

theorem Lst.nil (B : Nat) (X : Nat → Prop) (w : World) : Lst B X w (.slice none 0 0) [] := ⟨fun _ => default, World.ownsRow_nil _ _ _ _, fun j hj => absurd hj (by simp)⟩
theorem Lst.nw {B : Nat} {X : Nat → Prop} {w w' : World} {v : Value} {l : List Rec} (h : Lst B X w v l) (hk : Nw w w') : Lst B X w' v l := by
  obtain ⟨S, h1, h2⟩ := h
  exact ⟨S, Built.keptS h1 hk, fun j hj => (h2 j hj).kp hk.to⟩
theorem Lst.lt {B : Nat} {X : Nat → Prop} {w : World} {v : Value} {l : List Rec} (h : Lst B X w v l) : ∀ k, v.ownBlock = some k → B ≤ k ∧ k < w.heap.size := by
  obtain ⟨S, h1, h2⟩ := h
  exact World.ownsRow.lt h1
theorem Lst.form {B : Nat} {X : Nat → Prop} {w : World} {v : Value} {l : List Rec} (h : Lst B X w v l) : ∃ a cap, v = .slice a l.length cap ∧ l.length ≤ cap := by
  obtain ⟨S, h1, h2⟩ := h
  obtain ⟨a, cap, hv, hl, _⟩ := own_cells (X := fun _ => False) h1 (fun _ _ h => h)
  exact ⟨a, cap, hv, hl⟩
/-- It reads as the records l, outside whatever blocks of X that the row's is none of. -/
theorem Lst.recs {B : Nat} {X Y : Nat → Prop} {w : World} {v : Value} {l : List Rec} (h : Lst B X w v l) (hYX : ∀ b, b < w.heap.size → Y b → X b ∨ v.ownBlock = some b) (hY : ∀ b, B ≤ b → b < w.heap.size → ¬ Y b) : Recs Y w v l := by
  obtain ⟨S, h1, h2⟩ := h
  obtain ⟨a, cap, hv, hl, hc⟩ := own_cells_lt h1 hY
  refine ⟨a, cap, hv, hl, fun hp => ?_⟩
  obtain ⟨b, ha, hx, hcc⟩ := hc hp
  refine ⟨b, 0, ha, hx, fun j hj => ⟨S j, ?_⟩⟩
  have g := fun c hc => rows_get (recC S) 3 (recC_len S) l 0 j c hj hc
  have hs := h2 j hj
  rw [rx_get hj] at hs ⊢
  simp only [Nat.zero_add] at g ⊢
  refine ⟨hcc _ _ ?_, hcc _ _ ?_, hcc _ _ ?_, hs.mono hYX⟩
  · have := g 0 (by omega); simp only [Nat.add_zero] at this; rw [this]; rfl
  · rw [g 1 (by omega)]; rfl
  · rw [g 2 (by omega)]; rfl
theorem rows_shift (S S' : Nat → Value) (k : Nat) : ∀ (l : List Rec) (i : Nat), (∀ j, j < l.length → S' (i + k + j) = S (i + j)) → rowsFrom (recC S') (i + k) l = rowsFrom (recC S) i l
  | [], _, _ => rfl
  | x :: r, i, h => by
    rw [rowsFrom, rowsFrom]
    have h0 := h 0 (by simp)
    simp only [Nat.add_zero] at h0
    have e : recC S' (i + k) x = recC S i x := by simp [recC, h0]
    rw [e, show i + k + 1 = i + 1 + k by omega, rows_shift S S' k r (i + 1) (fun j hj => by rw [show i + 1 + k + j = i + k + (j + 1) by omega, show i + 1 + j = i + (j + 1) by omega]; exact h (j + 1) (by simpa using hj))]
theorem rx_append_left {l m : List Rec} {j : Nat} (h : j < l.length) : rx (l ++ m) j = rx l j := by
  rw [rx_get (by simp; omega), rx_get h, List.getElem_append_left h]
theorem rx_append_right {l m : List Rec} {j : Nat} (h : l.length ≤ j) (h2 : j < l.length + m.length) : rx (l ++ m) j = rx m (j - l.length) := by
  rw [rx_get (by simp; omega), rx_get (by omega), List.getElem_append_right h]
/-- After an append of the records m. -/
theorem Lst.app {B : Nat} {X : Nat → Prop} {w0 w w' : World} {v v' : Value} {l m : List Rec} {S S' : Nat → Value}
    (hS : ∀ j, j < l.length → Nums (fun b => X b ∨ v.ownBlock = some b) .u32 w0 (S j) (rx l j).vals) (hn : Nw w0 w) (hS' : ∀ j, j < m.length → Nums (fun b => X b ∨ v.ownBlock = some b) .u32 w (S' j) (rx m j).vals)
    (hown : w'.ownsRow B 30 3 v' (l.length + m.length) (rowsFrom (recC S) 0 l ++ rowsFrom (recC S') 0 m)) (hg : w.grownBy w' v.ownBlock) (hat : v'.ownBlock = v.ownBlock ∨ v'.ownBlock = some w.heap.size) : Lst B X w' v' (l ++ m) := by
  refine ⟨fun j => if j < l.length then S j else S' (j - l.length), ?_, fun j hj => ?_⟩
  · rw [rows_append, List.length_append, rows_congr (g := recC S) l 0 (fun j _ h2 x => by simp [recC]; omega)]
    rw [rows_shift S' _ l.length m 0 (fun j _ => by show (if 0 + l.length + j < l.length then _ else _) = _; rw [if_neg (by omega)]; congr 1; omega)]
    exact hown
  · simp only [List.length_append] at hj
    by_cases e : j < l.length
    · simp only [e, if_true]
      rw [rx_append_left e]
      exact Nums.appended (hS j e) hn hg hat
    · simp only [e, if_false]
      rw [rx_append_right (by omega) hj]
      exact Nums.appended (hS' _ (by omega)) (Nw.refl _) hg hat

end Go.Proofs.Ytkehhopdppampaa
