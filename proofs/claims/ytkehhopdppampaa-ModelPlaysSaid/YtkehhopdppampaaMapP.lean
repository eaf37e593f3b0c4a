/-
  MapP: a map of whatever keys as a list of pairs, in whatever order; ranging over it; no function in sight.
-/
import Derived.Test.YtkehhopdppampaaMapU
import Derived.Maps.RangeWalk
set_option linter.unusedVariables false
set_option linter.unusedSimpArgs false
namespace Go.Proofs.Ytkehhopdppampaa
open Go.RowKit Go.Sort Go.Maps

/-- What is to be known of a kind of keys. -/
structure KeyK (κ : Type) where
  kt : TypeId
  ek : κ → Value
  lk : κ → Lit
  wf : κ → Prop
  keyed : Keyed Try.prog kt
  key : ∀ k, wf k → keyOf Try.prog kt (ek k) = some (lk k)
  same : ∀ a b, wf a → wf b → ((lk a).sameKey (lk b) = true ↔ a = b)
  inv : ∀ v l, keyOf Try.prog kt v = some l → ∃ k, wf k ∧ v = ek k ∧ l = lk k

section
variable {κ : Type} (K : KeyK κ)

def encP (p : κ × Value) : Lit × DataW Value := (K.lk p.1, .held p.2)
def pfind [DecidableEq κ] (k : κ) (L : List (κ × Value)) : Option Value := (L.find? fun p => decide (p.1 = k)).map (·.2)
def pdel [DecidableEq κ] (k : κ) (L : List (κ × Value)) : List (κ × Value) := L.filter fun p => decide (p.1 ≠ k)
def pput [DecidableEq κ] (k : κ) (v : Value) (L : List (κ × Value)) : List (κ × Value) := (k, v) :: pdel k L
/-- Block b holds a map of these pairs. -/
def MapP (w : World) (b : Nat) (L : List (κ × Value)) : Prop :=
  ∃ es, w.ownsMap Try.prog K.kt heldR b L.length (.map es) ∧ es.Perm (L.map (encP K)) ∧ (L.map (·.1)).Nodup ∧ ∀ p ∈ L, K.wf p.1

theorem insert_perm (x : Lit × DataW Value) : ∀ l : List (Lit × DataW Value), (DataW.insert x l).Perm (x :: l)
  | [] => List.Perm.refl _
  | y :: r => by
    unfold DataW.insert
    split
    · exact List.Perm.refl _
    · exact (List.Perm.cons y (insert_perm x r)).trans (List.Perm.swap x y r)
variable {K}
theorem pfind_mem [DecidableEq κ] {k : κ} {v : Value} {L : List (κ × Value)} (h : pfind k L = some v) : (k, v) ∈ L := by
  unfold pfind at h
  obtain ⟨p, hp, rfl⟩ := Option.map_eq_some_iff.1 h
  have h1 := List.mem_of_find?_eq_some hp
  have h2 := List.find?_some hp
  simp only [decide_eq_true_eq] at h2
  rw [← h2]
  exact h1
theorem nodup_uniq {L : List (κ × Value)} (h : (L.map (·.1)).Nodup) {k : κ} {v v' : Value} (h1 : (k, v) ∈ L) (h2 : (k, v') ∈ L) : v = v' := by
  induction L with
  | nil => cases h1
  | cons p L ih =>
    rw [List.map_cons, List.nodup_cons] at h
    rcases List.mem_cons.1 h1 with e1 | m1
    · rcases List.mem_cons.1 h2 with e2 | m2
      · rw [← e2] at e1; exact (Prod.mk.inj e1).2
      · exact absurd (List.mem_map_of_mem (f := (·.1)) m2) (by rw [← e1] at h; exact h.1)
    · rcases List.mem_cons.1 h2 with e2 | m2
      · exact absurd (List.mem_map_of_mem (f := (·.1)) m1) (by rw [← e2] at h; exact h.1)
      · exact ih h.2 m1 m2
theorem pfind_of_mem [DecidableEq κ] {L : List (κ × Value)} (h : (L.map (·.1)).Nodup) {k : κ} {v : Value} (hm : (k, v) ∈ L) : pfind k L = some v := by
  cases e : pfind k L with
  | none =>
    unfold pfind at e
    rw [Option.map_eq_none_iff, List.find?_eq_none] at e
    exact absurd (e _ hm) (by simp)
  | some v' => rw [nodup_uniq h hm (pfind_mem e)]
theorem pfind_none [DecidableEq κ] {k : κ} {L : List (κ × Value)} : pfind k L = none ↔ ∀ v, (k, v) ∉ L := by
  unfold pfind
  rw [Option.map_eq_none_iff, List.find?_eq_none]
  refine ⟨fun h v hm => by simpa using h _ hm, fun h p hp => ?_⟩
  simp only [decide_eq_true_eq]
  rintro rfl
  exact h p.2 hp
theorem at_perm [DecidableEq κ] {es : List (Lit × DataW Value)} {L : List (κ × Value)} (hp : es.Perm (L.map (encP K))) (hn : (L.map (·.1)).Nodup) (hw : ∀ p ∈ L, K.wf p.1) {k : κ} (hk : K.wf k) (z : DataW Value) :
    (DataW.map es).atKey (K.lk k) z = ((pfind k L).map DataW.held).getD z := by
  have hin : ∀ q ∈ es, ∃ p ∈ L, encP K p = q := fun q hq => by simpa using (hp.mem_iff.1 hq)
  unfold DataW.atKey
  dsimp only
  cases e : es.find? (fun p => p.1.sameKey (K.lk k)) with
  | none =>
    rw [List.find?_eq_none] at e
    have : pfind k L = none := pfind_none.2 fun v hm => by
      have h1 : encP K (k, v) ∈ es := hp.mem_iff.2 (List.mem_map_of_mem hm)
      exact e _ h1 ((K.same k k hk hk).2 rfl)
    rw [this]
    rfl
  | some q =>
    obtain ⟨p, hpm, rfl⟩ := hin q (List.mem_of_find?_eq_some e)
    have h2 := List.find?_some e
    have h3 : p.1 = k := (K.same _ _ (hw p hpm) hk).1 h2
    have : pfind k L = some p.2 := pfind_of_mem hn (by rw [← h3]; exact hpm)
    rw [this]
    rfl
theorem has_perm [DecidableEq κ] {es : List (Lit × DataW Value)} {L : List (κ × Value)} (hp : es.Perm (L.map (encP K))) (hn : (L.map (·.1)).Nodup) (hw : ∀ p ∈ L, K.wf p.1) {k : κ} (hk : K.wf k) : Maps.has (.map es) (K.lk k) = (pfind k L).isSome := by
  show es.any (fun p => p.1.sameKey (K.lk k)) = _
  cases e : pfind k L with
  | none =>
    rw [List.any_eq_false.2]
    · rfl
    · intro q hq
      obtain ⟨p, hpm, rfl⟩ : ∃ p ∈ L, encP K p = q := by simpa using (hp.mem_iff.1 hq)
      intro h
      have h3 : p.1 = k := (K.same _ _ (hw p hpm) hk).1 h
      exact pfind_none.1 e p.2 (by rw [← h3]; exact hpm)
  | some v =>
    have h1 : encP K (k, v) ∈ es := hp.mem_iff.2 (List.mem_map_of_mem (pfind_mem e))
    rw [List.any_eq_true.2 ⟨_, h1, (K.same k k hk hk).2 rfl⟩]
    rfl
theorem filter_perm [DecidableEq κ] {es : List (Lit × DataW Value)} {L : List (κ × Value)} (hp : es.Perm (L.map (encP K))) (hw : ∀ p ∈ L, K.wf p.1) {k : κ} (hk : K.wf k) : (es.filter fun p => !p.1.sameKey (K.lk k)).Perm ((pdel k L).map (encP K)) := by
  refine (hp.filter _).trans ?_
  rw [List.filter_map]
  unfold pdel
  have : (L.filter ((fun p => !p.1.sameKey (K.lk k)) ∘ encP K)) = L.filter fun p => decide (p.1 ≠ k) := by
    apply List.filter_congr
    intro p hpm
    have h := K.same p.1 k (hw p hpm) hk
    simp only [Function.comp, encP]
    by_cases e : p.1 = k
    · rw [h.2 e]; simp [e]
    · have : (K.lk p.1).sameKey (K.lk k) = false := by
        cases h2 : (K.lk p.1).sameKey (K.lk k)
        · rfl
        · exact absurd (h.1 h2) e
      simp [this, e]
  rw [this]
theorem pdel_nodup [DecidableEq κ] {k : κ} {L : List (κ × Value)} (h : (L.map (·.1)).Nodup) : ((pdel k L).map (·.1)).Nodup := (List.filter_sublist.map _).nodup h
theorem pput_nodup [DecidableEq κ] {k : κ} {v : Value} {L : List (κ × Value)} (h : (L.map (·.1)).Nodup) : ((pput k v L).map (·.1)).Nodup := by
  unfold pput
  rw [List.map_cons, List.nodup_cons]
  refine ⟨fun hm => ?_, pdel_nodup h⟩
  obtain ⟨p, hp, e⟩ := List.mem_map.1 hm
  have := (List.mem_filter.1 hp).2
  simp [e] at this

theorem MapP.nodup {w : World} {b : Nat} {L : List (κ × Value)} (h : MapP K w b L) : (L.map (·.1)).Nodup := by obtain ⟨_, _, _, h, _⟩ := h; exact h
theorem MapP.wfs {w : World} {b : Nat} {L : List (κ × Value)} (h : MapP K w b L) : ∀ p ∈ L, K.wf p.1 := by obtain ⟨_, _, _, _, h⟩ := h; exact h
theorem MapP.of {w : World} {b n : Nat} {L : List (κ × Value)} {es : List (Lit × DataW Value)} (h : w.ownsMap Try.prog K.kt heldR b n (.map es)) (hp : es.Perm (L.map (encP K))) (hn : (L.map (·.1)).Nodup) (hw : ∀ p ∈ L, K.wf p.1) : MapP K w b L := by
  refine ⟨es, ?_, hp, hn, hw⟩
  obtain ⟨ents, clock, hb, F, hs, hD⟩ := h
  refine ⟨ents, clock, hb, F, ?_, hD⟩
  have h1 := congrArg Maps.size hD
  have h2 : Maps.size (DataW.map es) = L.length := by have := hp.length_eq; simpa [Maps.size] using this
  rw [h2] at h1
  rw [h1]
  simp [Maps.size, length_sorted]
theorem MapP.made (w : World) : MapP K (w.alloc (.map #[] 0)) w.heap.size [] := ⟨[], World.ownsMap_made w _ _ _, List.Perm.refl _, List.nodup_nil, fun p hp => by cases hp⟩
theorem MapP.kp {X : Nat → Prop} {w w' : World} {b : Nat} {L : List (κ × Value)} (h : MapP K w b L) (hk : Kp X w w') (hx : ¬ X b) : MapP K w' b L := by
  obtain ⟨es, ⟨ents, clock, hb, F, hs, hD⟩, h2⟩ := h
  exact ⟨es, ⟨ents, clock, hk.heap hb hx, F, hs, hD⟩, h2⟩
theorem MapP.lt {w : World} {b : Nat} {L : List (κ × Value)} (h : MapP K w b L) : b < w.heap.size := by
  obtain ⟨es, h, _⟩ := h
  exact World.ownsMap.lt h
theorem MapP.perm {w : World} {b : Nat} {L L' : List (κ × Value)} (h : MapP K w b L) (hp : L.Perm L') : MapP K w b L' := by
  obtain ⟨es, h1, h2, h3, h4⟩ := h
  exact ⟨es, by rw [← hp.length_eq]; exact h1, h2.trans (hp.map _), ((hp.map _).nodup_iff).1 h3, fun p hpm => h4 p (hp.mem_iff.2 hpm)⟩
/-- A look-up, with 'ok', and without. -/
theorem MapP.look [DecidableEq κ] {w : World} {b : Nat} {L : List (κ × Value)} (h : MapP K w b L) {t e : TypeId} (ht : Try.prog.underlying t = some (.map K.kt e)) {z : Value} (hz : ∀ w, (zeroValue e).run Try.prog w = .ok z w) {k : κ} (hk : K.wf k) :
    (Instr.lookup t (.map (some b)) (K.ek k) true).run Try.prog w = .ok (.tuple #[(pfind k L).getD z, .bool (pfind k L).isSome]) w := by
  obtain ⟨es, ho, hp, hn, hw⟩ := h
  obtain ⟨v, ps, hr, hv⟩ := World.ownsMap.look_ok ho K.keyed ht (hz w) (zd := .held z) (zp := []) rfl (K.key k hk)
  rw [at_perm hp hn hw hk] at hv
  rw [hr, has_perm hp hn hw hk]
  cases e : pfind k L <;> rw [e] at hv <;> simp only [heldR, Option.map_none, Option.map_some, Option.getD_none, Option.getD_some, Option.some.injEq, Prod.mk.injEq, DataW.held.injEq] at hv ⊢ <;> rw [hv.1]
theorem MapP.look1 [DecidableEq κ] {w : World} {b : Nat} {L : List (κ × Value)} (h : MapP K w b L) {t e : TypeId} (ht : Try.prog.underlying t = some (.map K.kt e)) {z : Value} (hz : ∀ w, (zeroValue e).run Try.prog w = .ok z w) {k : κ} (hk : K.wf k) :
    (Instr.lookup t (.map (some b)) (K.ek k) false).run Try.prog w = .ok ((pfind k L).getD z) w := by
  obtain ⟨es, ho, hp, hn, hw⟩ := h
  obtain ⟨v, ps, hr, hv⟩ := World.ownsMap.lookup ho K.keyed ht (hz w) (zd := .held z) (zp := []) rfl (K.key k hk)
  rw [at_perm hp hn hw hk] at hv
  rw [hr]
  cases e : pfind k L <;> rw [e] at hv <;> simp only [heldR, Option.map_none, Option.map_some, Option.getD_none, Option.getD_some, Option.some.injEq, Prod.mk.injEq, DataW.held.injEq] at hv ⊢ <;> rw [hv.1]
theorem MapP.store [DecidableEq κ] {w : World} {b : Nat} {L : List (κ × Value)} (h : MapP K w b L) {t e : TypeId} (ht : Try.prog.underlying t = some (.map K.kt e)) (hl : L.length < maxLen) {k : κ} (hk : K.wf k) (v : Value) :
    ∃ w', (Instr.mapUpdate t (.map (some b)) (K.ek k) v).run Try.prog w = .ok () w' ∧ MapP K w' b (pput k v L) ∧ Kp (fun i => i = b) w w' := by
  obtain ⟨es, ho, hp, hn, hw⟩ := h
  obtain ⟨w', hr, ho', ht'⟩ := World.ownsMap.store ho K.keyed ht hl (K.key k hk) (show heldR v = some (.held v, []) from rfl)
  refine ⟨w', hr, MapP.of ho' ((insert_perm _ _).trans (List.Perm.cons _ (filter_perm hp hw hk))) (pput_nodup hn) (fun p hpm => ?_), (Kp.of_grownBy ht'.grown).mono (fun k _ e => by cases e; rfl)⟩
  rcases List.mem_cons.1 hpm with rfl | hpm
  · exact hk
  · exact hw p (List.mem_filter.1 hpm).1
theorem MapP.drop [DecidableEq κ] {w : World} {b : Nat} {L : List (κ × Value)} (h : MapP K w b L) {t e : TypeId} (ht : Try.prog.underlying t = some (.map K.kt e)) {k : κ} (hk : K.wf k) (ty : TypeId) :
    ∃ w', (Builtin.delete_ #[t, K.kt] ty #[.map (some b), K.ek k]).run Try.prog w = .ok (.tuple #[]) w' ∧ MapP K w' b (pdel k L) ∧ Kp (fun i => i = b) w w' := by
  obtain ⟨es, ho, hp, hn, hw⟩ := h
  obtain ⟨w', hr, ho', ht'⟩ := World.ownsMap.drop ho K.keyed ht (K.key k hk) ty
  exact ⟨w', hr, MapP.of ho' (filter_perm hp hw hk) (pdel_nodup hn) (fun p hpm => hw p (List.mem_filter.1 hpm).1), (Kp.of_grownBy ht'.grown).mono (fun k _ e => by cases e; rfl)⟩

/-! ### ranging -/
variable (K) in
/-- A range over the map at b, its state at r: the pairs 'rest' are still to come. -/
def RangeP (w : World) (b r : Nat) (L rest : List (κ × Value)) (cnt : Nat) : Prop :=
  ∃ es left n, w.ranges Try.prog K.kt heldR b r n (.map es) left cnt ∧ es.Perm (L.map (encP K)) ∧ (L.map (·.1)).Nodup ∧ (∀ p ∈ L, K.wf p.1) ∧ rest = L.filter fun p => left (K.lk p.1)
theorem RangeP.measure {w : World} {b r : Nat} {L rest : List (κ × Value)} {cnt : Nat} (h : RangeP K w b r L rest cnt) : w.rangeLeft b r = cnt := by
  obtain ⟨es, left, n, h, _⟩ := h
  exact h.left_eq
theorem RangeP.lt {w : World} {b r : Nat} {L rest : List (κ × Value)} {cnt : Nat} (h : RangeP K w b r L rest cnt) : r < w.heap.size := by
  obtain ⟨es, left, n, h, _⟩ := h
  exact h.lt
theorem RangeP.ne {w : World} {b r : Nat} {L rest : List (κ × Value)} {cnt : Nat} (h : RangeP K w b r L rest cnt) : r ≠ b := by
  obtain ⟨es, left, n, h, _⟩ := h
  exact h.ne
theorem RangeP.map {w : World} {b r : Nat} {L rest : List (κ × Value)} {cnt : Nat} (h : RangeP K w b r L rest cnt) : MapP K w b L := by
  obtain ⟨es, left, n, h, hp, hn, hw, _⟩ := h
  exact MapP.of h.owns hp hn hw
theorem RangeP.sub {w : World} {b r : Nat} {L rest : List (κ × Value)} {cnt : Nat} (h : RangeP K w b r L rest cnt) : rest.Sublist L := by
  obtain ⟨es, left, n, h, hp, hn, hw, rfl⟩ := h
  exact List.filter_sublist
theorem RangeP.kp {X : Nat → Prop} {w w' : World} {b r : Nat} {L rest : List (κ × Value)} {cnt : Nat} (h : RangeP K w b r L rest cnt) (hk : Kp X w w') (hb : ¬ X b) (hr : ¬ X r) : RangeP K w' b r L rest cnt := by
  obtain ⟨es, left, n, ⟨ents, clock, since, seen, c0, h1, h2, h3, h4, h5, h6⟩, h7⟩ := h
  exact ⟨es, left, n, ⟨ents, clock, since, seen, c0, hk.heap h1 hb, h2, h3, h4, hk.heap h5 hr, h6⟩, h7⟩
section
variable (w : World) {ops : Array Oper} {rest : List Oper} {o : Oper} {a : Act} {Q : Exit → Act → World → Prop}
theorem wpList_rangeP [DecidableEq κ] (hg : o.guard = none) (m : Operand) (t : TypeId) (hop : o.op = Op.range t m) (e : TypeId) (ht : Try.prog.underlying t = some (.map K.kt e)) (b : Nat) (L : List (κ × Value)) (hm : a.eval m = .map (some b)) (hL : MapP K w b L)
    (hK : ∀ w', RangeP K w' b w.heap.size L L L.length → Nw w w' → w'.heap.size = w.heap.size + 1 → wpList Try.prog ops Q rest (a.put o.dst (.pointer (some ⟨w.heap.size, 0, none⟩))) w') :
    wpList Try.prog ops Q (o :: rest) a w := by
  obtain ⟨es, ho, hp, hn, hw⟩ := hL
  have hs : Maps.size (DataW.map es) = L.length := by have := hp.length_eq; simpa [Maps.size] using this
  refine wpList_range_own w hg m t hop K.kt e K.keyed ht heldR b L.length (.map es) hm ho fun w' hr hgr hz => hK w' ⟨es, _, _, by rw [hs] at hr; exact hr, hp, hn, hw, ?_⟩ (Nw.grown (Nw.refl _) hgr (fun k e => by cases e)) hz
  symm
  rw [List.filter_eq_self]
  intro p hpm
  rw [has_perm hp hn hw (hw p hpm), pfind_of_mem hn hpm]
  rfl
theorem wpList_nextP [DecidableEq κ] (hg : o.guard = none) (it : Operand) (hop : o.op = Op.next it false) (b r : Nat) (L rs : List (κ × Value)) (cnt : Nat) (hit : a.eval it = .pointer (some ⟨r, 0, none⟩)) (h : RangeP K w b r L rs cnt)
    (hDone : rs = [] → wpList Try.prog ops Q rest (a.put o.dst (.tuple #[.bool false])) w)
    (hMore : ∀ (x : κ) (v : Value) (w' : World) (cnt' : Nat), (x, v) ∈ rs → RangeP K w' b r L (pdel x rs) cnt' → cnt' < cnt → Kp (fun i => i = r) w w' → w'.heap.size = w.heap.size →
      (Instr.entry (.pointer (some ⟨r, 0, none⟩))).run Try.prog w' = .ok (.tuple #[K.ek x, v]) w' → wpList Try.prog ops Q rest (a.put o.dst (.tuple #[.bool true, K.ek x, v])) w') :
    wpList Try.prog ops Q (o :: rest) a w := by
  obtain ⟨es, left, n, h, hp, hn, hw, rfl⟩ := h
  refine wpList_next_ranges w hg it hop K.kt K.keyed heldR K.ek (fun v : Value => v) (fun key kl hkey => by obtain ⟨x, _, hx, _⟩ := K.inv key kl hkey; exact ⟨x, hx⟩) (fun v y hv => ⟨v, rfl⟩) b r n (.map es) left cnt hit h (fun _ hl => hDone (by
    rw [List.filter_eq_nil_iff]
    intro p _
    rw [hl]
    simp)) ?_
  intro x c kl y w' cnt' hkey hlk hv hat hrg hlt hgr hsz hen
  obtain ⟨x', hwx, hxe, rfl⟩ := K.inv _ _ hkey
  have hy : y = (.held c, []) := by simpa [heldR] using hv.symm
  subst hy
  have hk2 := hkey
  rw [hxe] at hen hk2 ⊢
  have hf : pfind x' L = some c := by
    have h1 := hat (.held (.bool true))
    have h2 := hat (.held (.bool false))
    rw [at_perm hp hn hw hwx] at h1 h2
    cases e : pfind x' L with
    | none => rw [e] at h1 h2; simp at h1 h2; rw [← h1] at h2; cases h2
    | some c' => rw [e] at h1; simp at h1; rw [h1]
  refine hMore x' c w' cnt' ?_ ⟨es, _, n, hrg, hp, hn, hw, ?_⟩ hlt ((Kp.of_grownBy hgr).mono (fun k _ e => by cases e; rfl)) hsz hen
  · rw [List.mem_filter]
    exact ⟨pfind_mem hf, hlk⟩
  · unfold pdel
    rw [List.filter_filter]
    apply List.filter_congr
    intro p hpm
    have hs := K.same p.1 x' (hw p hpm) hwx
    by_cases e : p.1 = x'
    · rw [hs.2 e]; simp [e]
    · have : (K.lk p.1).sameKey (K.lk x') = false := by
        cases h2 : (K.lk p.1).sameKey (K.lk x')
        · rfl
        · exact absurd (hs.1 h2) e
      simp [this, e]
end
end

/-- The keys that are numbers of 64 bits. -/
def keyU64 : KeyK Int where
  kt := 27
  ek k := .int .u64 k
  lk k := .int .u64 k
  wf k := (Lit.int .u64 k).wf = true
  keyed := map_keyed
  key k h := keyOf_int_mk Try.underlying27 h
  same a b _ _ := by rw [sameKey_u64]; simp
  inv v l h := by
    obtain ⟨x, rfl, rfl, hw⟩ := Maps.keyOf_int_inv Try.underlying27 h
    exact ⟨x, hw, rfl, rfl⟩
/-- A map of rising pairs is a map of pairs. -/
theorem MapIs.toP {w : World} {b : Nat} {L : List (Int × Value)} (h : MapIs w b L) (hn : (L.map (·.1)).Nodup) (hw : ∀ p ∈ L, (Lit.int .u64 p.1).wf = true) : MapP keyU64 w b L := ⟨_, h, List.Perm.refl _, hn, hw⟩

end Go.Proofs.Ytkehhopdppampaa
