/-
  RefM: the reference's model in memory; its last: what it answers.
-/
import Derived.Test.YtkehhopdppampaaModelLaw
import Derived.Test.YtkehhopdppampaaPut
import Derived.Laws.OwnMore
namespace Go.Proofs.Ytkehhopdppampaa
set_option linter.unusedVariables false
set_option linter.unusedSimpArgs false
open Go.RowKit Go.Sort Go.Maps

theorem own_nw {base : Nat} {e : TypeId} {size : Nat} {w w' : World} {v : Value} {n : Nat} {xs : List Value} (h : w.ownsRow base e size v n xs) (hk : Nw w w') : w'.ownsRow base e size v n xs :=
  h.kept (row := none) ⟨hk.os, hk.tape, hk.output, hk.size, fun j hj _ => hk.block j hj (fun h => h)⟩ (by cases hv : v.ownBlock <;> simp)
theorem own_kp {base : Nat} {e : TypeId} {size : Nat} {X : Nat → Prop} {w w' : World} {v : Value} {n : Nat} {xs : List Value} (h : w.ownsRow base e size v n xs) (hk : Kp X w w') (hx : ∀ b, v.ownBlock = some b → ¬ X b) : w'.ownsRow base e size v n xs := by
  refine ⟨h.1, ?_⟩
  rcases h.2 with hn | ⟨g, cap, cur, rfl, hb, hgg, rest⟩
  · exact .inl hn
  · exact .inr ⟨g, cap, cur, rfl, hb, hk.heap hgg (hx g rfl), rest⟩
def uRow (l : List Int) : List Value := rowsFrom (numC .u64) 0 l

/-- At block q stands the reference's model; Z: the blocks that it may turn. -/
def RM (B : Nat) (Z : Nat → Prop) (w : World) (q : Nat) (attrs : Int) (L : List Rec) (ids lst : List Int) : Prop :=
  ∃ la lc ia ic ta tc, w.heap[q]? = some (.cells #[.int .i64 attrs, .slice la L.length lc, .slice ia ids.length ic, .slice ta lst.length tc] 64 (0, 0)) ∧ Recs Z w (.slice la L.length lc) L ∧
    w.ownsRow B 27 1 (.slice ia ids.length ic) ids.length (uRow ids) ∧ w.ownsRow B 27 1 (.slice ta lst.length tc) lst.length (uRow lst) ∧ Z q ∧ (∀ b, (Value.slice ia ids.length ic).ownBlock = some b → Z b ∧ b ≠ q) ∧
    (∀ b, (Value.slice ta lst.length tc).ownBlock = some b → Z b ∧ b ≠ q ∧ (Value.slice ia ids.length ic).ownBlock ≠ some b) ∧ (∀ b, Z b → B ≤ b ∧ b < w.heap.size)
theorem RM.kp {B : Nat} {Z X : Nat → Prop} {w w' : World} {q : Nat} {attrs : Int} {L : List Rec} {ids lst : List Int} (h : RM B Z w q attrs L ids lst) (hk : Kp X w w') (hX : ∀ b, Z b → ¬ X b) {Y : Nat → Prop} (hR : ∀ v, Recs Z w v L → Recs Z w' v L) : RM B Z w' q attrs L ids lst := by
  obtain ⟨la, lc, ia, ic, ta, tc, h1, h2, h3, h4, h5, h6, h7, h8⟩ := h
  exact ⟨la, lc, ia, ic, ta, tc, hk.heap h1 (hX q h5), hR _ h2, own_kp h3 hk (fun b hb => hX b (h6 b hb).1), own_kp h4 hk (fun b hb => hX b (h7 b hb).1), h5, h6, h7, fun b hb => ⟨(h8 b hb).1, Nat.lt_of_lt_of_le (h8 b hb).2 hk.size⟩⟩
theorem RM.nw {B : Nat} {Z : Nat → Prop} {w w' : World} {q : Nat} {attrs : Int} {L : List Rec} {ids lst : List Int} (h : RM B Z w q attrs L ids lst) (hk : Nw w w') : RM B Z w' q attrs L ids lst :=
  h.kp (Y := fun _ => False) hk (fun _ _ h => h) (fun v hv => hv.kp (Nw.to hk))

/-! ### which version was last -/
def pidx (id : Int) (ids : List Int) : Option Nat := ids.findIdx? fun x => decide (x = id)
def plast (id : Int) (ids lst : List Int) : Int × Int := match pidx id ids with
  | none => (0, -1)
  | some i => (gx lst i, i)
theorem pidx_some {id : Int} {ids : List Int} {k : Nat} (hk : k < ids.length) (h : ∀ j, j < k → gx ids j ≠ id) (he : gx ids k = id) : pidx id ids = some k := by
  unfold pidx
  rw [List.findIdx?_eq_some_iff_getElem]
  refine ⟨hk, by rw [← gx_get hk]; simpa using he, fun j hj => ?_⟩
  have := h j hj
  rw [gx_get (by omega)] at this
  simpa using this
theorem pidx_none {id : Int} {ids : List Int} (h : ∀ j, j < ids.length → gx ids j ≠ id) : pidx id ids = none := by
  unfold pidx
  rw [List.findIdx?_eq_none_iff]
  intro x hx
  obtain ⟨j, hj, rfl⟩ := List.getElem_of_mem hx
  have := h j hj
  rw [gx_get hj] at this
  simpa using this
theorem pidx_lt {id : Int} {ids : List Int} {k : Nat} (h : pidx id ids = some k) : k < ids.length ∧ gx ids k = id := by
  unfold pidx at h
  rw [List.findIdx?_eq_some_iff_getElem] at h
  obtain ⟨hk, he, _⟩ := h
  exact ⟨hk, by rw [gx_get hk]; simpa using he⟩

/-- A row of numbers, read. -/
theorem own_u {B : Nat} {w : World} {a : Option Addr} {c : Nat} {l : List Int} (h : w.ownsRow B 27 1 (.slice a l.length c) l.length (uRow l)) (hp : 0 < l.length) : ∃ g, a = some ⟨g, 0, none⟩ ∧ ∀ j, j < l.length → w.cell? ⟨g, j, none⟩ = some (.int .u64 (gx l j)) := by
  obtain ⟨a', c', hv, hl, hc⟩ := own_cells (X := fun _ => False) h (fun _ _ h => h)
  injection hv with h1 h2 h3
  subst h1
  obtain ⟨g, rfl, _, hcc⟩ := hc hp
  refine ⟨g, rfl, fun j hj => hcc j _ ?_⟩
  have := rows_get (numC .u64) 1 (numC_len .u64) l 0 j 0 hj (by omega)
  simp only [Nat.mul_one, Nat.add_zero] at this
  unfold uRow
  rw [this, gx_get hj]
  rfl

set_option maxRecDepth 100000 in
set_option maxHeartbeats 1000000 in
theorem last_any (B : Nat) (Z : Nat → Prop) (q : Nat) (attrs : Int) (L : List Rec) (ids lst : List Int) (id : Int) (w : World) (hG : RM B Z w q attrs L ids lst) (hlen : lst.length = ids.length) (hn : ids.length ≤ 1000000000) :
    Calls Try.prog 52 #[.pointer (some ⟨q, 0, none⟩), .int .u64 id] w fun e w' => e = .returned (.tuple #[.int .u64 (plast id ids lst).1, .int .i64 (plast id ids lst).2]) ∧ w' = w := by
  obtain ⟨la, lc, ia, ic, ta, tc, h1, h2, h3, h4, h5, h6, h7, h8⟩ := hG
  have q2 : w.cell? ⟨q, 2, none⟩ = some (.slice ia ids.length ic) := by simp [World.cell?, h1]
  have q3 : w.cell? ⟨q, 3, none⟩ = some (.slice ta lst.length tc) := by simp [World.cell?, h1]
  have H3 := hid h3
  have H4 := hid h4
  have HLEN := hid hlen
  have hicl : ids.length ≤ ic := by obtain ⟨a', c', hv, hl, _⟩ := own_cells (X := fun _ => False) h3 (fun _ _ h => h); injection hv with _ _ e; omega
  have htcl : lst.length ≤ tc := by obtain ⟨a', c', hv, hl, _⟩ := own_cells (X := fun _ => False) h4 (fun _ _ h => h); injection hv with _ _ e; omega
  clear h1 h2 h3 h4 h5 h6 h7 h8
  have hln : lst.length ≤ 1000000000 := by omega
  clear hlen
  go_enter Try.func52, Try.ntmps52
  go_wp2
  go_loop [6] (fun i => ∃ k : Nat, k ≤ ids.length ∧ i = .int .i64 k ∧ Hid (∀ j, j < k → gx ids j ≠ id)) (fun i => ids.length - (intOf i).toNat)
  case atStart => exact ⟨0, by omega, by simp, hid (fun j hj => absurd hj (by omega))⟩
  case round =>
    obtain ⟨k, hk, rfl, HA⟩ := hrel
    by_cases hlt : k < ids.length
    · obtain ⟨g, rfl, hc⟩ := own_u H3.out (by omega)
      have c0 := hc k hlt
      clear hc
      by_cases he : gx ids k = id
      · have hb : (gx ids k == id) = true := by simpa using he
        have hlt2 : k < lst.length := by have := HLEN.out; omega
        obtain ⟨g2, rfl, hc2⟩ := own_u H4.out (by omega)
        have c2 := hc2 k hlt2
        have hp : plast id ids lst = (gx lst k, (k : Int)) := by unfold plast; rw [pidx_some hlt HA.out he]
        have HP := hid hp
        clear hc2 hp he
        generalize gx lst k = vk at *
        generalize gx ids k = ik at *
        go_wp2
        refine bodyPost_ret (v := .tuple #[.int .u64 vk, .int .i64 k]) (by simp [results, Try.results52, go_sem]) rfl ⟨by rw [HP.out], rfl⟩
      · have hb : (gx ids k == id) = false := by simpa using he
        have HE := hid he
        clear he
        go_wp2
        go_round
        case rel => exact ⟨k + 1, by omega, by go_num, hid (fun j hj => by
            by_cases e : j = k
            · rw [e]; exact HE.out
            · exact HA.out j (by omega))⟩
        case measure => simp [intOf]; omega
    · have hp : plast id ids lst = (0, -1) := by unfold plast; rw [pidx_none (fun j hj => HA.out j (by omega))]
      have HP := hid hp
      clear hp
      go_wp2
      refine bodyPost_ret (v := .tuple #[.int .u64 0, .int .i64 (-1)]) (by simp [results, Try.results52, go_sem]) rfl ⟨by rw [HP.out], rfl⟩

end Go.Proofs.Ytkehhopdppampaa
