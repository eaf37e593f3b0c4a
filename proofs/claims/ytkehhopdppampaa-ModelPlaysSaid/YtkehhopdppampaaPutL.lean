/-
  PutL: a record put into a list by rising ids, plain; an append as one step of a region that draws its order.
-/
import Derived.Test.YtkehhopdppampaaPages
import Derived.Test.YtkehhopdppampaaRef05
import Derived.RegionTactic
namespace Go.Proofs.Ytkehhopdppampaa
set_option linter.unusedVariables false
set_option linter.unusedSimpArgs false
open Go.RowKit Go.Sort Go.Maps

theorem step_app {P : Program} (w : World) {ops : Array Oper} {o : Oper} {a : Act} {K : Act → World → Prop} {Q : Exit → Act → World → Prop} {E : Prop} (hgd : o.guard = none) (s x : Operand) (t : TypeId)
    (ho : o.op = .call { callee := .builtin .append, args := #[s, x], argTypes := #[t, t] })
    (base : Nat) (e : TypeId) (i : TypeInfo) (z : Value) (size bytes : Nat) (ht : P.underlying t = some (.slice e)) (hi : P.info? e = some i) (hz : i.zero = some z)
    (hsize : i.size = size) (hby : i.bytes = bytes) (hzs : z.cells.size = size) (hsz : 0 < size)
    (v : Value) (n : Nat) (xs : List Value) (hs : a.eval s = v) (hown : w.ownsRow base e size v n xs)
    (xv : Value) (m : Nat) (news : List Value) (hx : a.eval x = xv) (hsrc : SrcC size w xv m news)
    (h63 : n + m ≤ maxLen) (hbytes : (n + m) * bytes ≤ 140737488355328) (hbase : base ≤ w.heap.size)
    (h : ∀ v' w', w'.ownsRow base e size v' (n + m) (xs ++ news) → w.grownBy w' v.ownBlock → Hid (v'.ownBlock = v.ownBlock ∨ v'.ownBlock = some w.heap.size) → K (a.put o.dst v') w') :
    if Region.wanted o (yielded ops a.tmps) = true then Oper.wp P o a w K Q else E := by
  have hw : Region.wanted o (yielded ops a.tmps) = true := by simp [Region.wanted, hgd]
  rw [if_pos hw]
  obtain ⟨v', w', hr, h2, h3, h4⟩ := run_app (P := P) w base t o.type e i z size bytes ht hi hz hsize hby hzs hsz v n xs hown xv m news hsrc h63 hbytes hbase
  unfold Oper.wp execOp
  simp only [ho, resolve, invoke, builtin, Sem.run_bind, Sem.run_pure, Result.andThen_ok, List.map_toArray, List.map_cons, List.map_nil, hs, hx, hr]
  exact h v' w' h2 h3 (hid h4)

/-! ### plain -/
theorem rins_at {r : Rec} : ∀ {R : List Rec} {k : Nat}, (∀ j, j < k → (rx R j).id < r.id) → k ≤ R.length → (k < R.length → r.id < (rx R k).id) → rins r R = R.take k ++ [r] ++ R.drop k
  | [], k, _, hk, _ => by
    obtain rfl : k = 0 := by simpa using hk
    rfl
  | y :: R, 0, _, _, h => by
    have h0 : r.id < y.id := by simpa [rx] using h (by simp)
    simp [rins, h0]
  | y :: R, k + 1, hl, hk, h => by
    have h0 : y.id < r.id := by simpa [rx] using hl 0 (by omega)
    have e : ∀ j, rx (y :: R) (j + 1) = rx R j := fun j => by simp [rx]
    have ih := rins_at (r := r) (R := R) (k := k) (fun j hj => by rw [← e j]; exact hl (j + 1) (by omega)) (by simpa using hk) (fun hj => by rw [← e k]; exact h (by simpa using hj))
    unfold rins
    rw [if_neg (by omega), ih]
    simp
theorem put_new {r : Rec} {R : List Rec} {k : Nat} (hs : Srt R) (hl : ∀ j, j < k → (rx R j).id < r.id) (hk : k ≤ R.length) (h : k < R.length → r.id < (rx R k).id) :
    newer R r = true ∧ rput r R = R.take k ++ [r] ++ R.drop k := by
  have hne : ∀ y ∈ R, y.id ≠ r.id := fun y hy => by
    obtain ⟨j, hj, rfl⟩ := List.getElem_of_mem hy
    rw [← rx_get hj]
    by_cases e : j < k
    · have := hl j e; omega
    · have h1 := h (by omega)
      by_cases e2 : j = k
      · rw [e2]; omega
      · have := hs.at (i := k) (j := j) (by omega) hj; omega
  refine ⟨?_, ?_⟩
  · unfold newer
    have : rfind r.id R = none := by
      unfold rfind
      rw [List.find?_eq_none]
      intro y hy
      simpa using hne y hy
    rw [this]
  · unfold rput
    rw [List.filter_eq_self.2 (fun y hy => by simpa using hne y hy)]
    exact rins_at hl hk h
theorem put_old {r : Rec} {R : List Rec} {k : Nat} (hs : Srt R) (hl : ∀ j, j < k → (rx R j).id < r.id) (hk : k < R.length) (h : (rx R k).id = r.id) :
    newer R r = decide ((rx R k).ver < r.ver) ∧ rput r R = R.take k ++ [r] ++ R.drop (k + 1) := by
  refine ⟨?_, ?_⟩
  · unfold newer
    rw [← h, hs.find hk]
  · have hf : R.filter (fun y => decide (y.id ≠ r.id)) = R.take k ++ R.drop (k + 1) := by
      have hR : R = R.take k ++ (rx R k :: R.drop (k + 1)) := by
        rw [rx_get hk, ← List.drop_eq_getElem_cons hk, List.take_append_drop]
      have h1 : (R.take k).filter (fun y => decide (y.id ≠ r.id)) = R.take k := List.filter_eq_self.2 (fun y hy => by
        obtain ⟨j, hj, rfl⟩ := List.getElem_of_mem hy
        have hj2 : j < k := by simp at hj; omega
        have := hl j hj2
        rw [rx_get (by omega)] at this
        rw [List.getElem_take]
        simp; omega)
      have h2 : (R.drop (k + 1)).filter (fun y => decide (y.id ≠ r.id)) = R.drop (k + 1) := List.filter_eq_self.2 (fun y hy => by
        obtain ⟨j, hj, rfl⟩ := List.getElem_of_mem hy
        have hj2 : k + 1 + j < R.length := by simp at hj; omega
        have := hs.at (i := k) (j := k + 1 + j) (by omega) hj2
        rw [rx_get hj2] at this
        rw [List.getElem_drop]
        simp; omega)
      conv => lhs; rw [hR]
      rw [List.filter_append, List.filter_cons, h1, h2]
      simp [h]
    unfold rput
    rw [hf]
    have h3 := rins_at (r := r) (R := R.take k ++ R.drop (k + 1)) (k := k) (fun j hj => by
      have : rx (R.take k ++ R.drop (k + 1)) j = rx R j := by
        rw [rx_get (by simp; omega), rx_get (by omega), List.getElem_append_left (by simp; omega), List.getElem_take]
      rw [this]; exact hl j hj) (by simp; omega) (fun hj => by
      have hj2 : k + 1 < R.length := by simp at hj; omega
      have : rx (R.take k ++ R.drop (k + 1)) k = rx R (k + 1) := by
        rw [rx_get hj, rx_get hj2, List.getElem_append_right (by simp; omega)]
        simp [Nat.min_eq_left (Nat.le_of_lt hk)]
      rw [this, ← h]
      exact hs.at (by omega) hj2)
    rw [h3]
    have hlk : (R.take k).length = k := by simp; omega
    rw [List.take_append_of_le_length (by omega), List.drop_append_of_le_length (by omega)]
    rw [List.take_of_length_le (by omega), List.drop_of_length_le (by omega)]
    simp

end Go.Proofs.Ytkehhopdppampaa
