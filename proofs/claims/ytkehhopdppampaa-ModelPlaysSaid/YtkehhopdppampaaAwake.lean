/-
  Awake: petasoslaw18.awake answers true; petasoslaw18.few: at most forty records of at most twenty values each.
-/
import Derived.Test.YtkehhopdppampaaAll
set_option linter.unusedVariables false
set_option linter.unusedSimpArgs false
namespace Go.Proofs.Ytkehhopdppampaa
open Go.RowKit Go.Sort Go.Maps

/-! ### literals of one element -/
theorem nums_one {Y : Nat → Prop} (w : World) (bb : Nat) (hbb : bb = w.heap.size) (k : IntKind) (x : Int) (t : TypeId) (h : ¬ Y w.heap.size) : Nums Y k (w.alloc (.cells #[.int k x] t)) (.slice (some ⟨bb, 0, none⟩) 1 1) [x] := by
  subst hbb
  refine ⟨_, _, rfl, by simp, fun _ => ⟨_, _, rfl, h, fun j hj => ?_⟩⟩
  obtain rfl : j = 0 := by simpa using hj
  simp [gx]
theorem rngs_one {Y : Nat → Prop} (w : World) (bb : Nat) (hbb : bb = w.heap.size) (a b c : Int) (t : TypeId) (h : ¬ Y w.heap.size) : Rngs Y (w.alloc (.cells #[.int .i64 a, .int .u32 b, .int .u32 c] t)) (.slice (some ⟨bb, 0, none⟩) 1 1) [⟨a, b, c⟩] := by
  subst hbb
  refine ⟨_, _, rfl, by simp, fun _ => ⟨_, _, rfl, h, fun j hj => ?_⟩⟩
  obtain rfl : j = 0 := by simpa using hj
  simp [bx]
theorem recs_one {Y : Nat → Prop} (w : World) (bb : Nat) (hbb : bb = w.heap.size) (r : Rec) (s : Value) (t : TypeId) (h : ¬ Y w.heap.size) (hs : Nums Y .u32 w s r.vals) : Recs Y (w.alloc (.cells #[.int .u64 r.id, .int .u64 r.ver, s] t)) (.slice (some ⟨bb, 0, none⟩) 1 1) [r] := by
  subst hbb
  refine ⟨_, _, rfl, by simp, fun _ => ⟨_, _, rfl, h, fun j hj => ?_⟩⟩
  obtain rfl : j = 0 := by simpa using hj
  exact ⟨s, by simp [rx], by simp [rx], by simp, hs.gr (Gr.alloc _ _)⟩

theorem GRep.new {B p mb : Nat} {w : World} {box : List Rng} {R : List Rec} (h : GRep (fun b => b = p ∨ b = mb ∨ b < B ∨ w.heap.size ≤ b) w p mb box R) {X : Nat → Prop} (hX : ∀ b, X b → b = mb ∨ b < B ∨ w.heap.size ≤ b) : GRep X w p mb box R :=
  h.mono (fun b _ hb => Or.inr (hX b hb))

def anyBox : List Rng := [⟨1, 0, 0⟩]
def oneRec : Rec := ⟨5, 1, [7]⟩
theorem wf_anyBox : WfB anyBox := fun j hj => by
  obtain rfl : j = 0 := by simpa [anyBox] using hj
  exact ⟨⟨by decide, by decide⟩, ⟨by decide, by decide⟩⟩
theorem wf_oneRec : WfL [oneRec] := fun j hj => by
  obtain rfl : j = 0 := by simpa using hj
  refine ⟨⟨by decide, by decide⟩, ⟨by decide, by decide⟩, fun i hi => ?_, by simp [rx, oneRec]⟩
  obtain rfl : i = 0 := by simpa [rx, oneRec] using hi
  exact ⟨by decide, by decide⟩

theorem one_cnt : gcnt anyBox [] [oneRec] = 1 := by decide
theorem one_add : gadd anyBox [] [oneRec] = [oneRec] := rfl
/-- What turns a block of the call's own is new memory to the caller. -/
theorem Nw.kpX {X : Nat → Prop} {a b c : World} (h : Nw a b) (k : Kp X b c) (hX : ∀ i, X i → a.heap.size ≤ i) : Nw a c :=
  ⟨k.os.trans h.os, k.tape.trans h.tape, k.output.trans h.output, Nat.le_trans h.size k.size, fun i hi _ => (k.block i (Nat.lt_of_lt_of_le hi h.size) (fun hx => by have := hX i hx; omega)).trans (h.block i hi (fun h => h))⟩

set_option maxHeartbeats 1000000 in
theorem awake_any (w : World) : Calls Try.prog 13 #[] w fun e w' => e = .returned (.bool true) ∧ Nw w w' := by
  have hwa := wf_anyBox
  go_enter Try.func13, Try.ntmps13
  go_wp2_with fail
  refine (new_any (fun _ => False) _ anyBox _ (rngs_one w _ rfl 1 0 0 _ (fun h => h)) (by simp [anyBox])).mono ?_
  rintro e W ⟨p, mb, rfl, hnw, h1, h2, h3, h4, h5, hG⟩
  have g0 : Nw w W := (Gr.alloc _ _).nw.trans hnw
  have G1 : GRep (fun b => b = mb) W p mb anyBox [] := GRep.new hG (fun b hb => Or.inl hb)
  have HG0 := hid g0
  have HG1 := hid G1
  clear hnw hG g0 G1 h1
  go_wp2_with fail
  refine (add_any (fun b => b = mb) p mb anyBox [] [oneRec] _ _ (HG1.out.nw ((Gr.alloc W _).trans (Gr.alloc _ _)).nw) rfl (fun b hb h => by simp at hb; omega) (recs_one _ (W.heap.size + 1) (by simp) oneRec _ _ (by simp; omega) (nums_one W _ rfl .u32 7 _ (by omega))) wf_oneRec wf_anyBox (by simp [anyBox]) (by simp)).mono ?_
  rintro e W3 ⟨rfl, hkp, hG3⟩
  rw [one_cnt]
  rw [one_add] at hG3
  have g3 := Nw.kpX (HG0.out.trans (((Gr.alloc W _).trans (Gr.alloc _ _)).nw)) hkp (fun k e => by rw [e]; simp at h2; omega)
  have HG3 := hid g3
  have HR3 := hid hG3
  clear hkp hG3 g3
  go_wp2_with fail
  refine (all_any _ _ _ _ [oneRec] _ HR3.out (by simp [Srt]) wf_oneRec (by simp)).mono ?_
  rintro e W4 ⟨v, rfl, hnw, hB⟩
  obtain ⟨a, cap, rfl, hl, _⟩ := hB.recs (Y := fun _ => False) (fun _ _ h => h)
  have HNW := hid hnw
  clear hnw hB
  go_wp2
  go_ret
  exact ⟨rfl, HG3.out.trans HNW.out⟩

/-! ### few -/
def fewB (l : List Rec) : Bool := decide (l.length ≤ 40) && l.all fun r => decide (r.vals.length ≤ 20)
theorem few_stop {l : List Rec} {k : Nat} (hk : k < l.length) (h : 20 < (rx l k).vals.length) : fewB l = false := by
  have : l.all (fun r => decide (r.vals.length ≤ 20)) = false := by
    rw [List.all_eq_false]
    exact ⟨l[k], List.getElem_mem hk, by rw [← rx_get hk]; simpa using h⟩
  simp [fewB, this]
theorem few_end {l : List Rec} (h : ∀ j, j < l.length → (rx l j).vals.length ≤ 20) : fewB l = decide (l.length ≤ 40) := by
  have : l.all (fun r => decide (r.vals.length ≤ 20)) = true := by
    rw [List.all_eq_true]
    intro r hr
    obtain ⟨j, hj, rfl⟩ := List.getElem_of_mem hr
    have := h j hj
    rw [rx_get hj] at this
    simpa using this
  simp [fewB, this]

set_option maxHeartbeats 400000 in
theorem few_any (X : Nat → Prop) (v : Value) (l : List Rec) (w : World) (h : Recs X w v l) (hsz : l.length ≤ 9223372036854775807) :
    Calls Try.prog 12 #[v] w fun e w' => e = .returned (.bool (fewB l)) ∧ w' = w := by
  obtain ⟨a, cap, rfl, hl, hc⟩ := h
  go_enter Try.func12, Try.ntmps12
  go_wp2
  go_loop [3] (fun i => ∃ k : Nat, k ≤ l.length ∧ (∀ j, j < k → (rx l j).vals.length ≤ 20) ∧ i = .int .i64 k) (fun i => l.length - (intOf i).toNat)
  case atStart => exact ⟨0, by omega, by omega, rfl⟩
  case round =>
    obtain ⟨k, hk, hall, rfl⟩ := hrel
    have HA : Hid (∀ j, j < k → (rx l j).vals.length ≤ 20) := hall
    clear hall
    by_cases hlt : k < l.length
    · obtain ⟨b, o, rfl, hx, hcc⟩ := hc (by omega)
      obtain ⟨s, c0, c1, c2, a', cap', rfl, hl', hN⟩ := hcc k hlt
      have HN := hid hN
      have HC := hid hcc
      clear hN hc hcc
      by_cases hq : 20 < (rx l k).vals.length
      · have e := few_stop hlt hq
        have E := hid e
        clear e
        go_wp2
        go_ret
        exact ⟨ret_bool E.out.symm, rfl⟩
      · go_wp2
        go_round
        case rel => exact ⟨k + 1, by omega, fun j hj => by
            by_cases e : j = k
            · subst e; omega
            · exact HA.out j (by omega), by go_num⟩
        case measure => simp [intOf]; omega
    · have e := few_end (l := l) (fun j hj => HA.out j (by omega))
      have E := hid e
      clear e hc
      go_wp2
      go_ret
      exact ⟨ret_bool (by rw [E.out]; simp; omega), rfl⟩


end Go.Proofs.Ytkehhopdppampaa
