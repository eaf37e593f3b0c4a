/-
  Order: petasoslaw18.GatherOrder, walked: it answers true and turns nothing that was there.
-/
import Derived.Test.YtkehhopdppampaaOrderL
import Derived.Laws.OwnMore
namespace Go.Proofs.Ytkehhopdppampaa
set_option linter.unusedVariables false
set_option linter.unusedSimpArgs false
open Go.RowKit Go.Sort Go.Maps

/-! ### plain -/
def same2 (y r : Rec) : Bool := y.id == r.id && y.ver == r.ver
def has1 (s : List Rec) (r : Rec) : Bool := s.any fun y => same2 y r
def dd1 (s : List Rec) (r : Rec) : List Rec := if has1 s r then s else s ++ [r]
def dd (l : List Rec) : List Rec := l.foldl dd1 []
theorem dd_snoc (l : List Rec) (k : Nat) (h : k < l.length) : dd (l.take (k + 1)) = dd1 (dd (l.take k)) (rx l k) := by
  rw [take_snocR l k h]; simp [dd]
theorem has1_snoc (s : List Rec) (r : Rec) (k : Nat) (h : k < s.length) : has1 (s.take (k + 1)) r = (has1 (s.take k) r || same2 (rx s k) r) := by
  rw [take_snocR s k h]; simp [has1]
theorem dd_props : ∀ (l s : List Rec), Own1 s → Own1 (l.foldl dd1 s) ∧ (l.foldl dd1 s).length ≤ s.length + l.length ∧ ∀ r ∈ l.foldl dd1 s, r ∈ s ∨ r ∈ l
  | [], s, h => ⟨h, by simp, fun r hr => Or.inl hr⟩
  | a :: l, s, h => by
    have h1 : Own1 (dd1 s a) := by
      unfold dd1
      cases hh : has1 s a with
      | true => simpa using h
      | false =>
        simp only [Bool.false_eq_true, if_false]
        have hno : ∀ y ∈ s, ¬ (y.id = a.id ∧ y.ver = a.ver) := fun y hy hc => by
          have : has1 s a = true := List.any_eq_true.2 ⟨y, hy, by simp [same2, hc.1, hc.2]⟩
          rw [hh] at this; cases this
        intro x hx y hy e1 e2
        rcases List.mem_append.1 hx with hx | hx <;> rcases List.mem_append.1 hy with hy | hy
        · exact h x hx y hy e1 e2
        · rw [List.mem_singleton.1 hy] at e1 e2; exact absurd ⟨e1, e2⟩ (hno x hx)
        · rw [List.mem_singleton.1 hx] at e1 e2; exact absurd ⟨e1.symm, e2.symm⟩ (hno y hy)
        · rw [List.mem_singleton.1 hx, List.mem_singleton.1 hy]
    have hl : (dd1 s a).length ≤ s.length + 1 := by unfold dd1; split <;> simp
    have hmem : ∀ r ∈ dd1 s a, r ∈ s ∨ r = a := fun r hr => by
      unfold dd1 at hr
      split at hr
      · exact Or.inl hr
      · simpa using hr
    obtain ⟨p1, p2, p3⟩ := dd_props l (dd1 s a) h1
    refine ⟨p1, by simp only [List.foldl_cons, List.length_cons]; omega, fun r hr => ?_⟩
    rcases p3 r hr with h | h
    · rcases hmem r h with h | h
      · exact Or.inl h
      · exact Or.inr (by rw [h]; exact List.mem_cons_self ..)
    · exact Or.inr (List.mem_cons_of_mem _ h)
theorem dd_own (l : List Rec) : Own1 (dd l) := (dd_props l [] (fun x hx => by cases hx)).1
theorem dd_len (l : List Rec) : (dd l).length ≤ l.length := by show (l.foldl dd1 []).length ≤ l.length; have := (dd_props l [] (fun x hx => by cases hx)).2.1; simpa using this
theorem dd_mem {l : List Rec} {r : Rec} (h : r ∈ dd l) : r ∈ l := by
  rcases (dd_props l [] (fun x hx => by cases hx)).2.2 r h with h | h
  · cases h
  · exact h
/-- What the second gathering is told. -/
def ups (m : List Rec) : Nat → List Rec
  | 0 => []
  | k + 1 => ups m k ++ [rx m k] ++ m.take k
theorem ups_len (m : List Rec) : ∀ k, k ≤ m.length → (ups m k).length ≤ k * (m.length + 1)
  | 0, _ => by simp [ups]
  | k + 1, h => by
    have := ups_len m k (by omega)
    simp only [ups, List.length_append, List.length_take, List.length_cons, List.length_nil, Nat.add_mul]
    omega
theorem ups_mem (m : List Rec) : ∀ k, k ≤ m.length → ∀ r, r ∈ ups m k ↔ r ∈ m.take k
  | 0, _, r => by simp [ups]
  | k + 1, h, r => by
    rw [take_snocR m k (by omega)]
    simp only [ups, List.mem_append, ups_mem m k (by omega) r]
    constructor
    · rintro ((h | h) | h)
      · exact Or.inl h
      · exact Or.inr h
      · exact Or.inl h
    · rintro (h | h)
      · exact Or.inl (Or.inl h)
      · exact Or.inl (Or.inr h)
theorem perm_swap (m : List Rec) {j k : Nat} (hj : j < m.length) (hk : k < m.length) : ((m.set j (rx m k)).set k (rx m j)).Perm m := by
  rw [rx_get hj, rx_get hk]
  exact List.set_set_perm hj hk
/-- The cells of a row in which one record is another now. -/
theorem rows_set (S : Nat → Value) (r : Rec) (s : Value) : ∀ (l : List Rec) (i j : Nat), j < l.length →
    (((rowsFrom (recC S) i l).set (j * 3) (.int .u64 r.id)).set (j * 3 + 1) (.int .u64 r.ver)).set (j * 3 + 2) s = rowsFrom (recC (fun q => if q = i + j then s else S q)) i (l.set j r)
  | [], _, _, h => absurd h (by simp)
  | x :: l, i, 0, _ => by
    rw [rowsFrom, List.set_cons_zero, rowsFrom]
    have e : rowsFrom (recC (fun q => if q = i + 0 then s else S q)) (i + 1) l = rowsFrom (recC S) (i + 1) l := rows_congr l (i + 1) (fun q h1 h2 x => by simp [recC]; omega)
    rw [e]
    simp [recC]
  | x :: l, i, j + 1, h => by
    have ih := rows_set S r s l (i + 1) j (by simpa using h)
    rw [rowsFrom, List.set_cons_succ, rowsFrom]
    have e : recC (fun q => if q = i + (j + 1) then s else S q) i x = recC S i x := by simp [recC]
    rw [e, show i + (j + 1) = i + 1 + j by omega, ← ih]
    have e3 : (j + 1) * 3 = j * 3 + 3 := by omega
    rw [e3]
    simp [recC, List.set_cons_succ]
theorem own_form {w : World} {base : Nat} {e : TypeId} {size : Nat} {v : Value} {n : Nat} {xs : List Value} (h : w.ownsRow base e size v n xs) (hn : 0 < n) :
    ∃ g cap, v = .slice (some ⟨g, 0, none⟩) n cap ∧ base ≤ g ∧ g < w.heap.size := by
  rcases h.2 with ⟨_, h0⟩ | ⟨g, cap, cur, hv, hb, hg, _⟩
  · omega
  · exact ⟨g, cap, hv, hb, (Array.getElem?_eq_some_iff.1 hg).1⟩
/-- Two records of a row of the call's own, exchanged. -/
theorem Lst.swap {B : Nat} {X : Nat → Prop} {w : World} {g n cap : Nat} {m : List Rec} {S : Nat → Value} (hown : w.ownsRow B 30 3 (.slice (some ⟨g, 0, none⟩) n cap) n (rowsFrom (recC S) 0 m)) (hn : m.length = n)
    (hS : ∀ q, q < m.length → Nums (fun b => X b ∨ (Value.slice (some ⟨g, 0, none⟩) n cap).ownBlock = some b) .u32 w (S q) (rx m q).vals) {j k : Nat} (hj : j < m.length) (hk : k < m.length) :
    let w' := (((((w.setCell ⟨g, j * 3, none⟩ (.int .u64 (rx m k).id)).setCell ⟨g, j * 3 + 1, none⟩ (.int .u64 (rx m k).ver)).setCell ⟨g, j * 3 + 2, none⟩ (S k)).setCell ⟨g, k * 3, none⟩ (.int .u64 (rx m j).id)).setCell ⟨g, k * 3 + 1, none⟩ (.int .u64 (rx m j).ver)).setCell ⟨g, k * 3 + 2, none⟩ (S j)
    Lst B X w' (.slice (some ⟨g, 0, none⟩) n cap) ((m.set j (rx m k)).set k (rx m j)) ∧ Kp (fun b => b = g) w w' := by
  have h1 := (hown.stored (j * 3) (.int .u64 (rx m k).id)).1
  have h2 := (h1.stored (j * 3 + 1) (.int .u64 (rx m k).ver)).1
  have h3 := (h2.stored (j * 3 + 2) (S k)).1
  rw [rows_set S (rx m k) (S k) m 0 j hj] at h3
  have h4 := (h3.stored (k * 3) (.int .u64 (rx m j).id)).1
  have h5 := (h4.stored (k * 3 + 1) (.int .u64 (rx m j).ver)).1
  have h6 := (h5.stored (k * 3 + 2) (S j)).1
  rw [rows_set _ (rx m j) (S j) (m.set j (rx m k)) 0 k (by simpa using hk)] at h6
  have hkp : Kp (fun b => b = g) w ((((((w.setCell ⟨g, j * 3, none⟩ (.int .u64 (rx m k).id)).setCell ⟨g, j * 3 + 1, none⟩ (.int .u64 (rx m k).ver)).setCell ⟨g, j * 3 + 2, none⟩ (S k)).setCell ⟨g, k * 3, none⟩ (.int .u64 (rx m j).id)).setCell ⟨g, k * 3 + 1, none⟩ (.int .u64 (rx m j).ver)).setCell ⟨g, k * 3 + 2, none⟩ (S j)) :=
    ((((((Kp.refl (fun b => b = g) w).setCell (p := ⟨g, j * 3, none⟩) rfl _).setCell (p := ⟨g, j * 3 + 1, none⟩) rfl _).setCell (p := ⟨g, j * 3 + 2, none⟩) rfl _).setCell (p := ⟨g, k * 3, none⟩) rfl _).setCell (p := ⟨g, k * 3 + 1, none⟩) rfl _).setCell (p := ⟨g, k * 3 + 2, none⟩) rfl _
  have hlen : ((m.set j (rx m k)).set k (rx m j)).length = n := by simpa using hn
  refine ⟨⟨_, by rw [hlen]; exact h6, fun q hq => ?_⟩, hkp⟩
  rw [hlen] at hq
  have hx : ∀ i (l : List Rec) (r : Rec) q, q < l.length → rx (l.set i r) q = if q = i then r else rx l q := fun i l r q hq => by
    rw [rx_get (by simpa using hq), List.getElem_set, rx_get hq]
    by_cases e : i = q
    · rw [if_pos e, if_pos e.symm]
    · rw [if_neg e, if_neg (fun h => e h.symm)]
  have hg : ∀ s l, Nums (fun b => X b ∨ (Value.slice (some ⟨g, 0, none⟩) n cap).ownBlock = some b) .u32 w s l → Nums (fun b => X b ∨ (Value.slice (some ⟨g, 0, none⟩) n cap).ownBlock = some b) .u32 _ s l := fun s l h => h.kp (hkp.mono (fun b _ e => Or.inr (by rw [e]; rfl)))
  apply hg
  rw [hx k _ _ q (by simp; omega), hx j _ _ q (by omega)]
  simp only [Nat.zero_add]
  by_cases e1 : q = k
  · rw [if_pos e1, if_pos e1]
    exact hS j hj
  · rw [if_neg e1, if_neg e1]
    by_cases e2 : q = j
    · rw [if_pos e2, if_pos e2]
      exact hS k hk
    · rw [if_neg e2, if_neg e2]
      exact hS q (by omega)

end Go.Proofs.Ytkehhopdppampaa
