/-
  Gath: a gathering in memory as a list of records, rising by id; gather.New, Add.
-/
import Derived.Test.YtkehhopdppampaaMapU
import Derived.BigQuiet
import Derived.RegionTactic
import Derived.BigRegion
set_option linter.unusedVariables false
set_option linter.unusedSimpArgs false
namespace Go.Proofs.Ytkehhopdppampaa
open Go.RowKit Go.Sort Go.Maps

/-! ### plain -/
def rfind (k : Int) (R : List Rec) : Option Rec := R.find? fun r => decide (r.id = k)
def rins (r : Rec) : List Rec → List Rec
  | [] => [r]
  | y :: R => if r.id < y.id then r :: y :: R else y :: rins r R
def rput (r : Rec) (R : List Rec) : List Rec := rins r (R.filter fun y => decide (y.id ≠ r.id))
/-- Is it new, or newer? -/
def newer (R : List Rec) (r : Rec) : Bool := match rfind r.id R with
  | none => true
  | some o => decide (o.ver < r.ver)
def takes (box : List Rng) (R : List Rec) (r : Rec) : Bool := mB box r.vals && newer R r
def gadd1 (box : List Rng) (R : List Rec) (r : Rec) : List Rec := if takes box R r then rput r R else R
def gadd (box : List Rng) (R : List Rec) (l : List Rec) : List Rec := l.foldl (gadd1 box) R
def gcnt (box : List Rng) (R : List Rec) : List Rec → Nat
  | [] => 0
  | r :: l => (takes box R r).toNat + gcnt box (gadd1 box R r) l
theorem gadd_snoc (box : List Rng) (R : List Rec) (l : List Rec) (r : Rec) : gadd box R (l ++ [r]) = gadd1 box (gadd box R l) r := by simp [gadd]
theorem gcnt_snoc (box : List Rng) (r : Rec) : ∀ (l : List Rec) (R : List Rec), gcnt box R (l ++ [r]) = gcnt box R l + (takes box (gadd box R l) r).toNat
  | [], R => by simp [gcnt, gadd]
  | y :: l, R => by
    rw [List.cons_append, gcnt, gcnt, gcnt_snoc box r l]
    simp only [gadd, List.foldl_cons]
    omega
theorem gcnt_le (box : List Rng) : ∀ (l : List Rec) (R : List Rec), gcnt box R l ≤ l.length
  | [], R => by simp [gcnt]
  | y :: l, R => by
    have := gcnt_le box l (gadd1 box R y)
    have h2 : (takes box R y).toNat ≤ 1 := Bool.toNat_le _
    rw [gcnt, List.length_cons]
    omega
theorem rins_length (r : Rec) : ∀ R, (rins r R).length = R.length + 1
  | [] => rfl
  | y :: R => by unfold rins; split <;> simp [rins_length r R]
theorem rput_length (r : Rec) (R : List Rec) : (rput r R).length ≤ R.length + 1 := by
  unfold rput
  rw [rins_length]
  have := List.length_filter_le (fun y : Rec => decide (y.id ≠ r.id)) R
  omega
theorem gadd_length (box : List Rng) : ∀ (l : List Rec) (R : List Rec), (gadd box R l).length ≤ R.length + l.length
  | [], R => by simp [gadd]
  | r :: l, R => by
    have := gadd_length box l (gadd1 box R r)
    have h2 : (gadd1 box R r).length ≤ R.length + 1 := by
      unfold gadd1
      split
      · exact rput_length r R
      · omega
    simp only [gadd, List.foldl_cons, List.length_cons] at this ⊢
    omega
theorem take_snocR (l : List Rec) (k : Nat) (h : k < l.length) : l.take (k + 1) = l.take k ++ [rx l k] := by
  rw [List.take_succ_eq_append_getElem h, rx_get h]
def W64 (x : Int) : Prop := 0 ≤ x ∧ x < 18446744073709551616
def WfRec (r : Rec) : Prop := W64 r.id ∧ W64 r.ver ∧ WfV r.vals ∧ r.vals.length ≤ 1000000000000
def WfL (l : List Rec) : Prop := ∀ j, j < l.length → WfRec (rx l j)

/-! ### pairs and records -/
def Tied (X : Nat → Prop) (w : World) : List (Int × Value) → List Rec → Prop
  | [], [] => True
  | p :: L, r :: R => p.1 = r.id ∧ RecV X w p.2 r ∧ Tied X w L R
  | _, _ => False
section
variable {X : Nat → Prop} {w w' : World}
theorem Tied.length : ∀ {L : List (Int × Value)} {R : List Rec}, Tied X w L R → L.length = R.length
  | [], [], _ => rfl
  | _ :: _, _ :: _, h => by simp [Tied.length h.2.2]
theorem Tied.kp (hk : Kp X w w') : ∀ {L : List (Int × Value)} {R : List Rec}, Tied X w L R → Tied X w' L R
  | [], [], _ => trivial
  | _ :: _, _ :: _, h => ⟨h.1, h.2.1.kp hk, Tied.kp hk h.2.2⟩
theorem Tied.mono {Y : Nat → Prop} (hY : ∀ b, b < w.heap.size → Y b → X b) : ∀ {L : List (Int × Value)} {R : List Rec}, Tied X w L R → Tied Y w L R
  | [], [], _ => trivial
  | _ :: _, _ :: _, h => ⟨h.1, h.2.1.mono hY, Tied.mono hY h.2.2⟩
theorem Tied.keys : ∀ {L : List (Int × Value)} {R : List Rec}, Tied X w L R → L.map (·.1) = R.map (·.id)
  | [], [], _ => rfl
  | _ :: _, _ :: _, h => by simp [h.1, Tied.keys h.2.2]
theorem Tied.filter {k : Int} : ∀ {L : List (Int × Value)} {R : List Rec}, Tied X w L R → Tied X w (L.filter fun p => decide (p.1 ≠ k)) (R.filter fun r => decide (r.id ≠ k))
  | [], [], _ => trivial
  | p :: L, r :: R, h => by
    have ih := Tied.filter (k := k) h.2.2
    by_cases e : p.1 = k
    · have e2 : r.id = k := by rw [← h.1]; exact e
      simpa [List.filter_cons, e, e2] using ih
    · have e2 : r.id ≠ k := by rw [← h.1]; exact e
      simp only [List.filter_cons, e, e2, ne_eq, not_false_eq_true, decide_true, if_true]
      exact ⟨h.1, h.2.1, ih⟩
theorem Tied.ins {v : Value} {r : Rec} (hv : RecV X w v r) : ∀ {L : List (Int × Value)} {R : List Rec}, Tied X w L R → Tied X w (mins r.id v L) (rins r R)
  | [], [], _ => ⟨rfl, hv, trivial⟩
  | p :: L, y :: R, h => by
    unfold mins rins
    rw [← h.1]
    split
    · exact ⟨rfl, hv, h⟩
    · exact ⟨h.1, h.2.1, Tied.ins hv h.2.2⟩
theorem Tied.put {v : Value} {r : Rec} (hv : RecV X w v r) {L : List (Int × Value)} {R : List Rec} (h : Tied X w L R) : Tied X w (mput r.id v L) (rput r R) := Tied.ins hv (Tied.filter h)
theorem Tied.find_none {k : Int} : ∀ {L : List (Int × Value)} {R : List Rec}, Tied X w L R → rfind k R = none → mfind k L = none
  | [], [], _, _ => rfl
  | p :: L, r :: R, h, hf => by
    unfold rfind at hf
    rw [List.find?_cons] at hf
    by_cases e : r.id = k
    · simp [e] at hf
    · simp only [e, decide_false] at hf
      have e2 : p.1 ≠ k := by rw [h.1]; exact e
      unfold mfind
      rw [List.find?_cons]
      simp only [e2, decide_false]
      exact Tied.find_none h.2.2 hf
theorem Tied.find_some {k : Int} {o : Rec} : ∀ {L : List (Int × Value)} {R : List Rec}, Tied X w L R → rfind k R = some o → ∃ v, mfind k L = some v ∧ RecV X w v o
  | [], [], _, hf => by cases hf
  | p :: L, r :: R, h, hf => by
    unfold rfind at hf
    rw [List.find?_cons] at hf
    by_cases e : r.id = k
    · simp only [e, decide_true, Option.some.injEq] at hf
      subst hf
      refine ⟨p.2, ?_, h.2.1⟩
      unfold mfind
      rw [List.find?_cons]
      simp [h.1, e]
    · simp only [e, decide_false] at hf
      have e2 : p.1 ≠ k := by rw [h.1]; exact e
      obtain ⟨v, hv, hr⟩ := Tied.find_some h.2.2 hf
      refine ⟨v, ?_, hr⟩
      unfold mfind at hv ⊢
      rw [List.find?_cons]
      simp only [e2, decide_false]
      exact hv
end

/-- At block p stands a gathering: its box, its records, by rising ids; its map lies in block mb. -/
def GRep (X : Nat → Prop) (w : World) (p mb : Nat) (box : List Rng) (R : List Rec) : Prop :=
  ∃ vb L, w.heap[p]? = some (.cells #[vb, .map (some mb)] 77 (0, 0)) ∧ Rngs X w vb box ∧ MapIs w mb L ∧ Tied X w L R

theorem GRep.kp {X Z : Nat → Prop} {w w' : World} {p mb : Nat} {box : List Rng} {R : List Rec} (h : GRep X w p mb box R) (hk : Kp Z w w') (hZ : ∀ k, k < w.heap.size → Z k → X k) (hp : ¬ Z p) (hm : ¬ Z mb) : GRep X w' p mb box R := by
  obtain ⟨vb, L, hb, hr, hL, ht⟩ := h
  have hk' : Kp X w w' := hk.mono hZ
  exact ⟨vb, L, hk.heap hb hp, hr.kp hk', hL.kp hk hm, ht.kp hk'⟩
theorem GRep.nw {X : Nat → Prop} {w w' : World} {p mb : Nat} {box : List Rng} {R : List Rec} (h : GRep X w p mb box R) (hk : Nw w w') : GRep X w' p mb box R := h.kp hk (fun _ _ h => h.elim) (fun h => h) (fun h => h)

theorem GRep.mono {X Y : Nat → Prop} {w : World} {p mb : Nat} {box : List Rng} {R : List Rec} (h : GRep X w p mb box R) (hY : ∀ b, b < w.heap.size → Y b → X b) : GRep Y w p mb box R := by
  obtain ⟨vb, L, hb, hr, hL, ht⟩ := h
  exact ⟨vb, L, hb, hr.mono hY, hL, ht.mono hY⟩

set_option maxHeartbeats 400000 in
theorem new_any (X : Nat → Prop) (v : Value) (box : List Rng) (w : World) (h : Rngs X w v box) (hb : box.length ≤ 1000000000000) :
    Calls Try.prog 14 #[v] w fun e w' => ∃ p mb, e = .returned (.pointer (some ⟨p, 0, none⟩)) ∧ Nw w w' ∧ w.heap.size ≤ p ∧ w.heap.size ≤ mb ∧ p < w'.heap.size ∧ mb < w'.heap.size ∧ p ≠ mb ∧
      GRep (fun b => b = p ∨ b = mb ∨ b < w.heap.size ∨ w'.heap.size ≤ b) w' p mb box [] := by
  have hmm := @run_makeMap Try.prog
  have HS := hid h.src
  clear h
  go_enter Try.func14, Try.ntmps14
  go_wp2_with fail
  refine (clone_rng _ _ _ w HS.out hb).mono ?_
  rintro e W ⟨v1, rfl, hown, g1⟩
  have HO := hid hown
  have HG := hid g1
  obtain ⟨a', cap', rfl, _, _⟩ := own_cells (X := fun _ => False) hown (fun _ _ h => h)
  have hz := g1.size
  clear hown g1
  go_wp2
  go_ret
  refine ⟨_, _, rfl, (HG.out.trans (Gr.alloc _ _).nw).trans (Gr.alloc _ _).nw, ?_, hz, ?_, ?_, ?_, ?_⟩
  all_goals first | omega | (simp only [World.size_alloc]; omega) | skip
  refine ⟨_, [], by have := heap_alloc_new (W.alloc (.map #[] 0)) (.cells #[.slice a' box.length cap', .map (some W.heap.size)] 77); simpa using this, ?_, ?_, trivial⟩
  · have hn : Rngs (fun b => b < w.heap.size ∨ W.heap.size ≤ b) W (.slice a' box.length cap') box := by
      obtain ⟨b1, hx⟩ : ∃ b, b = W.heap.size := ⟨_, rfl⟩
      exact own_rngs_lt HO.out (fun b h1 h2 h => by omega)
    refine (hn.kp ((Gr.alloc _ _).trans (Gr.alloc _ _)).nw.to).mono (fun b hb' h => ?_)
    simp at hb' h
    omega
  · exact (MapIs.made W).kp (Gr.alloc _ _).nw (fun h => h)

end Go.Proofs.Ytkehhopdppampaa
