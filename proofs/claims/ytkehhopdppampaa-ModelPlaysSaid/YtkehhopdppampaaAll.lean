/-
  All: gather.All: the records, by rising ids, each in memory of the call's own.
-/
import Derived.Test.YtkehhopdppampaaAdd
import Derived.Test.YtkehhopdppampaaSorted
import Derived.Deep.Onto
set_option linter.unusedVariables false
set_option linter.unusedSimpArgs false
namespace Go.Proofs.Ytkehhopdppampaa
open Go.RowKit Go.Sort Go.Maps

/-! ### plain -/
/-- By rising ids. -/
def Srt (R : List Rec) : Prop := R.Pairwise fun a b => a.id < b.id
theorem Srt.at {R : List Rec} (h : Srt R) {i j : Nat} (hij : i < j) (hj : j < R.length) : (rx R i).id < (rx R j).id := by
  have := List.pairwise_iff_getElem.1 h i j (by omega) hj hij
  rw [rx_get (by omega), rx_get hj]
  exact this
theorem Srt.find : ∀ {R : List Rec} (_ : Srt R) {j : Nat} (_ : j < R.length), rfind (rx R j).id R = some (rx R j)
  | [], _, _, hj => absurd hj (by simp)
  | r :: R, h, 0, _ => by simp [rfind, rx]
  | r :: R, h, j + 1, hj => by
    obtain ⟨h1, h2⟩ := List.pairwise_cons.1 h
    have hj' : j < R.length := by simpa using hj
    have e : rx (r :: R) (j + 1) = rx R j := by simp [rx]
    rw [e]
    have hlt : r.id < (rx R j).id := h1 _ (by rw [rx_get hj']; exact List.getElem_mem hj')
    unfold rfind
    rw [List.find?_cons]
    have : decide (r.id = (rx R j).id) = false := by simp; omega
    rw [this]
    exact Srt.find h2 hj'
theorem Srt.keys {R : List Rec} (h : Srt R) {ss : List Int} (hp : ss.Perm (R.map (·.id))) : ss.mergeSort (fun x y => decide (x ≤ y)) = R.map (·.id) := by
  refine List.Perm.eq_of_pairwise (le := fun x y => x ≤ y) (fun a b _ _ h1 h2 => by omega) ?_ ?_ ((List.mergeSort_perm _ _).trans hp)
  · have := List.pairwise_mergeSort (le := fun x y : Int => decide (x ≤ y)) (fun a b c h1 h2 => by simp at *; omega) (fun a b => by simp; omega) ss
    exact this.imp (fun h => by simpa using h)
  · rw [List.pairwise_map]
    exact List.Pairwise.imp (fun h => by omega) h
theorem rows_congr {α : Type} {f g : Nat → α → List Value} : ∀ (l : List α) (i : Nat), (∀ j, i ≤ j → j < i + l.length → ∀ x, f j x = g j x) → rowsFrom f i l = rowsFrom g i l
  | [], _, _ => rfl
  | x :: r, i, h => by
    rw [rowsFrom, rowsFrom, h i (Nat.le_refl _) (by simp), rows_congr r (i + 1) (fun j h1 h2 => h j (by omega) (by simp; omega))]

theorem nw_of_below {w w' : World} (h : Below w.heap.size w w') : Nw w w' := ⟨h.os, h.tape, h.output, h.size, fun k hk _ => h.block k hk⟩

/-- A list of records that a call has built, so far: its row, its records' values. -/
def Built (base : Nat) (wr : World) (v : Value) (l : List Rec) : Prop :=
  ∃ S : Nat → Value, wr.ownsRow base 30 3 v l.length (rowsFrom (recC S) 0 l) ∧ ∀ j, j < l.length → ∀ Y, Fresh base Y → Nums (fun b => Y b ∨ v.ownBlock = some b) .u32 wr (S j) (rx l j).vals
theorem Built.recs {base : Nat} {wr : World} {v : Value} {l : List Rec} (h : Built base wr v l) {Y : Nat → Prop} (hY : Fresh base Y) : Recs Y wr v l := by
  obtain ⟨S, h1, h2⟩ := h
  exact own_recs h1 hY (fun j hj => (h2 j hj Y hY).mono (fun b _ hb => Or.inl hb))
theorem Built.mono {base base' : Nat} {wr : World} {v : Value} {l : List Rec} (h : Built base wr v l) (hb : base' ≤ base) : Built base' wr v l := by
  obtain ⟨S, h1, h2⟩ := h
  exact ⟨S, World.ownsRow.mono h1 hb, fun j hj Y hY => h2 j hj Y (fun b hb' => hY b (by omega))⟩
theorem Built.nil (base : Nat) (wr : World) : Built base wr (.slice none 0 0) [] := ⟨fun _ => default, World.ownsRow_nil _ _ _ _, fun j hj => absurd hj (by simp)⟩
/-- One record more, in a row that the append has yielded. -/
theorem Built.snoc {base : Nat} {wr : World} {l : List Rec} {S : Nat → Value} {s v' : Value} {r : Rec}
    (hS : ∀ j, j < l.length → ∀ Y, Fresh base Y → Nums (fun b => Y b ∨ v'.ownBlock = some b) .u32 wr (S j) (rx l j).vals) (hs : ∀ Y, Fresh base Y → Nums (fun b => Y b ∨ v'.ownBlock = some b) .u32 wr s r.vals)
    (h : wr.ownsRow base 30 3 v' (l.length + 1) (rowsFrom (recC S) 0 l ++ [.int .u64 r.id, .int .u64 r.ver, s])) : Built base wr v' (l ++ [r]) := by
  refine ⟨fun j => if j = l.length then s else S j, ?_, fun j hj Y hY => ?_⟩
  · rw [rows_snoc, rows_congr (g := recC S) l 0 (fun j _ h2 x => by simp [recC]; omega)]
    simpa [recC] using h
  · simp only [List.length_append, List.length_cons, List.length_nil] at hj
    by_cases e : j = l.length
    · subst e
      simp only [if_true]
      have : rx (l ++ [r]) l.length = r := by simp [rx]
      rw [this]
      exact hs Y hY
    · simp only [e, if_false]
      have e1 : j < l.length := by omega
      have : rx (l ++ [r]) j = rx l j := by rw [rx_get (by simp; omega), rx_get e1, List.getElem_append_left e1]
      rw [this]
      exact hS j e1 Y hY

/-- '[]T{x}', appended. -/
theorem src_one (w : World) (cs : Array Value) (t : TypeId) (h : ∀ u ∈ cs.toList, u.oneCell' = true) : SrcC cs.size (w.alloc (.cells cs t)) (.slice (some ⟨w.heap.size, 0, none⟩) 1 1) 1 cs.toList := by
  refine ⟨_, _, rfl, by simp, h, fun _ => ⟨_, _, rfl, fun j u hu => ?_⟩⟩
  have := heap_alloc_new w (.cells cs t)
  simp only [World.cell?, this]
  simpa using hu
theorem RecV.fresh {B : Nat} {w : World} {v : Value} {r : Rec} (h : ∀ Y, Fresh B Y → RecV Y w v r) : ∃ s, v = .agg #[.int .u64 r.id, .int .u64 r.ver, s] ∧ ∀ Y, Fresh B Y → Nums Y .u32 w s r.vals := by
  obtain ⟨s, rfl, _⟩ := h (fun _ => False) (fun _ _ h => h)
  refine ⟨s, rfl, fun Y hY => ?_⟩
  obtain ⟨s', e, hn⟩ := h Y hY
  injection e with e
  simp at e
  rw [e]
  exact hn
/-- The list so far is kept by what leaves its row alone. -/
theorem Built.keptS {base : Nat} {w w' : World} {v : Value} {n : Nat} {xs : List Value} (h : w.ownsRow base 30 3 v n xs) (hk : Nw w w') : w'.ownsRow base 30 3 v n xs :=
  h.kept (row := none) ⟨hk.os, hk.tape, hk.output, hk.size, fun j hj _ => hk.block j hj (fun h => h)⟩ (by cases hv : v.ownBlock <;> simp)

/-- Numbers that lie beside the row v, after an append to v. -/
theorem Nums.appended {Y : Nat → Prop} {k : IntKind} {w0 w w' : World} {v v' s : Value} {l : List Int} (h : Nums (fun b => Y b ∨ v.ownBlock = some b) k w0 s l) (hn : Nw w0 w) (hg : w.grownBy w' v.ownBlock) (hat : v'.ownBlock = v.ownBlock ∨ v'.ownBlock = some w.heap.size) :
    Nums (fun b => Y b ∨ v'.ownBlock = some b) k w' s l := by
  have h1 := h.kp hn.to
  have h2 := h1.mono (Y := fun b => Y b ∨ v.ownBlock = some b ∨ v'.ownBlock = some b) (fun b hb hh => by
    rcases hh with hh | hh | hh
    · exact Or.inl hh
    · exact Or.inr hh
    · rcases hat with e | e
      · exact Or.inr (by rw [← e]; exact hh)
      · rw [e] at hh
        cases hh
        exact absurd hb (Nat.lt_irrefl _))
  exact (h2.kp ((Kp.of_grownBy hg).mono (fun b _ e => Or.inr (Or.inl e)))).mono (fun b _ hh => hh.imp id Or.inr)

set_option maxRecDepth 100000 in
set_option maxHeartbeats 1000000 in
theorem all_any (X : Nat → Prop) (p mb : Nat) (box : List Rng) (R : List Rec) (w : World) (hG : GRep X w p mb box R) (hS : Srt R) (hW : WfL R) (hn : R.length ≤ 1073741824) :
    Calls Try.prog 17 #[.pointer (some ⟨p, 0, none⟩)] w fun e w' => ∃ v, e = .returned v ∧ Nw w w' ∧ Built w.heap.size w' v R := by
  obtain ⟨vb, L, hb, hr, hL, ht⟩ := hG
  obtain ⟨i0, hi0, hz0, hz1, hz2⟩ := info_parts infoRec
  have hlen := ht.length
  have hkeys := ht.keys
  have p1 : w.cell? ⟨p, 1, none⟩ = some (.map (some mb)) := by simp [World.cell?, hb]
  have HL := hid hL
  have HT := hid ht
  clear hL ht hb hr
  go_enter Try.func17, Try.ntmps17
  go_wp2_with (first
    | (go_at_call 41; refine (keys_A _ _).mono ?_; rintro e w' ⟨rfl, rfl⟩)
    | (go_at_call 40; refine (sorted_A mb L.length (kvD L) w.heap.size _ ?h1 ?h2 ((HL.out.kp (Gr.alloc _ _).nw (fun h => h)) : MapIs _ mb L) ?h3).mono ?_))
  case h1 => simp
  case h2 => simp
  case h3 => rw [size_kv]; omega
  rintro e W ⟨v, ss, rfl, hperm, hown, hnil, hbel⟩
  rw [keys_kv, hkeys] at hperm
  have hl2 : ss.length = R.length := by have := hperm.length_eq; simpa using this
  rw [hS.keys hperm, hl2] at hown
  have g0 : Nw w W := (Gr.alloc _ _).nw.trans (nw_of_below hbel)
  have p1' := g0.cell p1 (fun h => h)
  obtain ⟨a, cap, rfl, hcl, hcc⟩ := own_cells (X := fun _ => False) hown (fun _ _ h => h)
  have HG := hid g0
  clear hown hnil hbel hperm p1 hl2
  go_wp2
  go_loopw [3, 15] (fun lv i wr => ∃ k : Nat, k ≤ R.length ∧ i = .int .i64 k ∧ Hid (Nw W wr ∧ Built W.heap.size wr lv (R.take k))) (fun _ i _ => R.length - (intOf i).toNat)
  case atStart => exact ⟨0, by omega, by simp, hid ⟨Nw.refl _, Built.nil _ _⟩⟩
  case round =>
    obtain ⟨k, hk, rfl, HR⟩ := hrel
    by_cases hlt : k < R.length
    · obtain ⟨b, rfl, _, hc⟩ := hcc (by omega)
      have c0 := hc k (.int .u64 (rx R k).id) (by rw [rx_get hlt]; simp [hlt, encU])
      obtain ⟨g1, S, hown, hnums⟩ := HR.out
      have HN := hid hnums
      have c1 := g1.cell c0 (fun h => h)
      have p2 := g1.cell p1' (fun h => h)
      obtain ⟨v1, hf, s, rfl, hv⟩ := HT.out.find_some (hS.find hlt)
      have hwr := hW k hlt
      obtain ⟨hw0, hw1, hw2, hw3⟩ := hwr
      have hlk := ((HL.out.kp (HG.out.trans g1) (fun h => h)) : MapIs wr mb L).look1 Try.underlying75 zeroRec hw0.1 hw0.2
      rw [hf] at hlk
      simp only [Option.getD_some] at hlk
      have HV := hid hv
      have HO := hid hown
      have HG1 := hid g1
      have htk : (R.take k).length = k := by simp; omega
      have hsn := hid (take_snocR R k hlt)
      clear hc hcc c0 p1' hf hv hown g1 HR hnums
      generalize hrk : rx R k = r at *
      go_wp2_with fail
      refine (copy_any X _ r _ ⟨s, rfl, HV.out.kp (Nw.to (HG.out.trans HG1.out))⟩ hw3).mono ?_
      rintro e W2 ⟨v2, rfl, hnw, hrec⟩
      obtain ⟨s2, rfl, hs2⟩ := RecV.fresh hrec
      have HS2 := hid hs2
      have HNW := hid hnw
      clear hrec hs2 hnw
      go_wp2_with (at_builtin; refine wpList_app rfl _ _ 23 rfl W.heap.size 30 i0 _ 3 40 Try.underlying23 hi0 hz0 hz1 hz2 rfl (by decide) _ (R.take k).length (rowsFrom (recC S) 0 (R.take k)) rfl ?qo _ 1 [.int .u64 r.id, .int .u64 r.ver, s2] rfl ?qc1 ?qc2 ?qc3 ?qc4 ?_)
      case qo => exact Built.keptS HO.out ((HNW.out.trans (Gr.alloc _ _).nw))
      case qc1 => exact src_one W2 #[.int .u64 r.id, .int .u64 r.ver, s2] 30 (by have := HS2.out (fun _ => False) (fun _ _ h => h); obtain ⟨_, _, e, _⟩ := this; intro u hu; simp at hu; rcases hu with rfl | rfl | rfl <;> first | rfl | (rw [e]; rfl))
      case qc2 => unfold maxLen; omega
      case qc3 => omega
      case qc4 => have e1 := HG1.out.size; have e2 := HNW.out.size; simp; omega
      intro v' w1 hown hgrow hat
      have hat' := hat.out
      rw [← World.size_alloc W2 (.cells #[.int .u64 r.id, .int .u64 r.ver, s2] 30)] at hat'
      have hlv : ∀ q, Value.ownBlock u3 = some q → W.heap.size ≤ q := fun q hq => (World.ownsRow.lt HO.out q hq).1
      have FIN : Hid (Nw W w1 ∧ Built W.heap.size w1 v' (R.take (k + 1))) := hid (by
        have h1 : Nw W w1 := Nw.grown ((HG1.out.trans HNW.out).trans (Gr.alloc _ _).nw) hgrow hlv
        refine ⟨h1, ?_⟩
        rw [hsn.out]
        refine Built.snoc (S := S) (s := s2) ?_ ?_ (by rw [htk]; exact hown)
        · intro j hj Y hY
          rw [htk] at hj
          have h0 := HN.out j (by rw [htk]; exact hj) Y hY
          exact Nums.appended h0 (HNW.out.trans (Gr.alloc _ _).nw) hgrow hat'
        · intro Y hY
          exact Nums.appended ((HS2.out (fun b => Y b ∨ Value.ownBlock u3 = some b) (fun b hb h => h.elim (hY b (by have := HG1.out.size; omega)) (fun h => by have := (World.ownsRow.lt HO.out b h).2; omega)))) (Gr.alloc _ _).nw hgrow hat')
      clear hown hgrow hlv hat hat'
      go_wp2
      go_roundw
      case rel => exact ⟨k + 1, by omega, by go_num, FIN⟩
      case measure => simp [intOf]; omega
    · have e : k = R.length := by omega
      subst e
      rw [List.take_length] at HR
      clear hcc p1'
      go_wp2
      go_ret
      refine ⟨_, rfl, HG.out.trans HR.out.1, HR.out.2.mono HG.out.size⟩

end Go.Proofs.Ytkehhopdppampaa
