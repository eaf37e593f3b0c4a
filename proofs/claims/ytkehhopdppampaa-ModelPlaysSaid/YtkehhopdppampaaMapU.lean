/-
  MapU: a map keyed by uint64 as a list of pairs, rising; no function in sight.
-/
import Derived.Test.YtkehhopdppampaaCopies
import Derived.Test.YtkehhopdppampaaKeysU
import Derived.Maps.OwnSet
set_option linter.unusedVariables false
set_option linter.unusedSimpArgs false
namespace Go.Proofs.Ytkehhopdppampaa
open Go.RowKit Go.Sort Go.Maps

/-- An element's reader that looks at nothing: the value itself. -/
def heldR (v : Value) : Option (DataW Value × List MemPlace) := some (.held v, [])
def kvD (L : List (Int × Value)) : DataW Value := .map (L.map fun p => (.int .u64 p.1, .held p.2))
def mins (k : Int) (v : Value) : List (Int × Value) → List (Int × Value)
  | [] => [(k, v)]
  | y :: r => if k < y.1 then (k, v) :: y :: r else y :: mins k v r
def mput (k : Int) (v : Value) (L : List (Int × Value)) : List (Int × Value) := mins k v (L.filter fun p => decide (p.1 ≠ k))
def mfind (k : Int) (L : List (Int × Value)) : Option Value := (L.find? fun p => decide (p.1 = k)).map (·.2)
def mdel (k : Int) (L : List (Int × Value)) : List (Int × Value) := L.filter fun p => decide (p.1 ≠ k)

theorem sameKey_u64 (a b : Int) : (Lit.int .u64 a).sameKey (.int .u64 b) = decide (a = b) := by simp [Lit.sameKey]
theorem insert_kv (k : Int) (v : Value) : ∀ L : List (Int × Value), DataW.insert (Lit.int .u64 k, DataW.held v) (L.map fun p => ((Lit.int .u64 p.1, .held p.2) : Lit × DataW Value)) = (mins k v L).map fun p => (.int .u64 p.1, .held p.2)
  | [] => rfl
  | y :: r => by
    simp only [List.map_cons, DataW.insert, mins, Lit.before]
    by_cases h : k < y.1
    · simp [h]
    · simp [h, insert_kv k v r]
theorem put_kv (k : Int) (v : Value) (L : List (Int × Value)) : (kvD L).put (.int .u64 k) (.held v) = kvD (mput k v L) := by
  have e : (L.map fun p => ((Lit.int .u64 p.1, .held p.2) : Lit × DataW Value)).filter (fun p => !p.1.sameKey (.int .u64 k)) = (L.filter fun p => decide (p.1 ≠ k)).map fun p => (.int .u64 p.1, .held p.2) := by
    rw [List.filter_map]
    congr 1
    apply List.filter_congr
    intro p _
    simp [Function.comp, sameKey_u64]
  show DataW.map (DataW.insert _ (List.filter _ _)) = _
  rw [e, insert_kv]
  rfl
theorem del_kv (k : Int) (L : List (Int × Value)) : (kvD L).del (.int .u64 k) = kvD (mdel k L) := by
  show DataW.map (List.filter _ _) = _
  rw [List.filter_map]
  unfold kvD mdel
  congr 2
  apply List.filter_congr
  intro p _
  simp [Function.comp, sameKey_u64]
theorem atKey_kv (k : Int) (z : Value) (L : List (Int × Value)) : (kvD L).atKey (.int .u64 k) (.held z) = .held ((mfind k L).getD z) := by
  unfold kvD DataW.atKey mfind
  dsimp only
  rw [List.find?_map]
  have e : ((fun p : Lit × DataW Value => p.1.sameKey (.int .u64 k)) ∘ fun p : Int × Value => ((Lit.int .u64 p.1, .held p.2) : Lit × DataW Value)) = fun p => decide (p.1 = k) := by
    funext p
    simp [Function.comp, sameKey_u64]
  rw [e]
  cases L.find? (fun p => decide (p.1 = k)) <;> rfl
theorem has_kv (k : Int) (L : List (Int × Value)) : Maps.has (kvD L) (.int .u64 k) = (mfind k L).isSome := by
  show ((L.map fun p => ((Lit.int .u64 p.1, .held p.2) : Lit × DataW Value)).any fun p => p.1.sameKey (.int .u64 k)) = _
  rw [List.any_map]
  have e : ((fun p : Lit × DataW Value => p.1.sameKey (.int .u64 k)) ∘ fun p : Int × Value => ((Lit.int .u64 p.1, .held p.2) : Lit × DataW Value)) = fun p => decide (p.1 = k) := by
    funext p
    simp [Function.comp, sameKey_u64]
  rw [e]
  unfold mfind
  induction L with
  | nil => rfl
  | cons y r ih =>
    rw [List.any_cons, List.find?_cons]
    by_cases h : y.1 = k
    · simp [h]
    · simp only [h, decide_false, Bool.false_or]
      exact ih
theorem size_kv (L : List (Int × Value)) : Maps.size (kvD L) = L.length := by simp [Maps.size, kvD]
theorem keys_kv (L : List (Int × Value)) : intKeys (kvD L) = L.map (·.1) := by simp [intKeys, kvD, Go.intOf, Function.comp_def]

/-- Block b holds a map of these pairs. -/
def MapIs (w : World) (b : Nat) (L : List (Int × Value)) : Prop := w.ownsMap Try.prog 27 heldR b L.length (kvD L)

theorem map_keyed : Keyed Try.prog 27 := int_keyed Try.underlying27
/-- Whatever bound: the number of entries is one. -/
theorem MapIs.tight {w : World} {b n : Nat} {L : List (Int × Value)} (h : w.ownsMap Try.prog 27 heldR b n (kvD L)) : MapIs w b L := by
  obtain ⟨es, clock, hb, F, hs, hD⟩ := h
  refine ⟨es, clock, hb, F, ?_, hD⟩
  have := congrArg Maps.size hD
  rw [size_kv] at this
  rw [this]
  simp [Maps.size, length_sorted]
theorem MapIs.made (w : World) : MapIs (w.alloc (.map #[] 0)) w.heap.size [] := World.ownsMap_made w _ _ _
theorem MapIs.kp {X : Nat → Prop} {w w' : World} {b : Nat} {L : List (Int × Value)} (h : MapIs w b L) (hk : Kp X w w') (hx : ¬ X b) : MapIs w' b L := by
  obtain ⟨es, clock, hb, F, hs, hD⟩ := h
  exact ⟨es, clock, hk.heap hb hx, F, hs, hD⟩
theorem MapIs.lt {w : World} {b : Nat} {L : List (Int × Value)} (h : MapIs w b L) : b < w.heap.size := World.ownsMap.lt h
theorem wfU {x : Int} (h0 : 0 ≤ x) (h1 : x < 18446744073709551616) : (Lit.int .u64 x).wf = true := by
  show (decide (IntKind.u64.min ≤ x) && decide (x ≤ IntKind.u64.max)) = true
  rw [show IntKind.u64.min = 0 from rfl, show IntKind.u64.max = 18446744073709551615 from by decide]
  simp
  omega
theorem keyU {x : Int} (h0 : 0 ≤ x) (h1 : x < 18446744073709551616) : keyOf Try.prog 27 (.int .u64 x) = some (.int .u64 x) := keyOf_int_mk Try.underlying27 (wfU h0 h1)
/-- A look-up, with 'ok'. -/
theorem MapIs.look {w : World} {b : Nat} {L : List (Int × Value)} (h : MapIs w b L) {t e : TypeId} (ht : Try.prog.underlying t = some (.map 27 e)) {z : Value} (hz : ∀ w, (zeroValue e).run Try.prog w = .ok z w) {x : Int} (h0 : 0 ≤ x) (h1 : x < 18446744073709551616) :
    (Instr.lookup t (.map (some b)) (.int .u64 x) true).run Try.prog w = .ok (.tuple #[(mfind x L).getD z, .bool (mfind x L).isSome]) w := by
  obtain ⟨v, ps, hr, hv⟩ := World.ownsMap.look_ok h map_keyed ht (hz w) (zd := .held z) (zp := []) rfl (keyU h0 h1)
  rw [atKey_kv] at hv
  simp only [heldR, Option.some.injEq, Prod.mk.injEq, DataW.held.injEq] at hv
  rw [hr, has_kv, hv.1]
theorem MapIs.look1 {w : World} {b : Nat} {L : List (Int × Value)} (h : MapIs w b L) {t e : TypeId} (ht : Try.prog.underlying t = some (.map 27 e)) {z : Value} (hz : ∀ w, (zeroValue e).run Try.prog w = .ok z w) {x : Int} (h0 : 0 ≤ x) (h1 : x < 18446744073709551616) :
    (Instr.lookup t (.map (some b)) (.int .u64 x) false).run Try.prog w = .ok ((mfind x L).getD z) w := by
  obtain ⟨v, ps, hr, hv⟩ := World.ownsMap.lookup h map_keyed ht (hz w) (zd := .held z) (zp := []) rfl (keyU h0 h1)
  rw [atKey_kv] at hv
  simp only [heldR, Option.some.injEq, Prod.mk.injEq, DataW.held.injEq] at hv
  rw [hr, hv.1]
theorem MapIs.store {w : World} {b : Nat} {L : List (Int × Value)} (h : MapIs w b L) {t e : TypeId} (ht : Try.prog.underlying t = some (.map 27 e)) (hn : L.length < maxLen) {x : Int} (h0 : 0 ≤ x) (h1 : x < 18446744073709551616) (v : Value) :
    ∃ w', (Instr.mapUpdate t (.map (some b)) (.int .u64 x) v).run Try.prog w = .ok () w' ∧ MapIs w' b (mput x v L) ∧ Kp (fun k => k = b) w w' := by
  obtain ⟨w', hr, ho, ht⟩ := World.ownsMap.store h map_keyed ht hn (keyU h0 h1) (show heldR v = some (.held v, []) from rfl)
  rw [put_kv] at ho
  exact ⟨w', hr, MapIs.tight ho, (Kp.of_grownBy ht.grown).mono (fun k _ e => by cases e; rfl)⟩

end Go.Proofs.Ytkehhopdppampaa
