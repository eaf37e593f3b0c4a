/-
  PlaysL: a gathering and the reference's, side by side: each call leaves both as plain gathering says.
-/
import Derived.Test.YtkehhopdppampaaRefPage
import Derived.Test.YtkehhopdppampaaFork
namespace Go.Proofs.Ytkehhopdppampaa
set_option linter.unusedVariables false
set_option linter.unusedSimpArgs false
open Go.RowKit Go.Sort Go.Maps

/-- The program's gathering at p (its map in mb), and the reference's at q, both the call's own. -/
structure PP (w0 w : World) (p mb q : Nat) (box : List Rng) (R L : List Rec) : Prop where
  nw : Nw w0 w
  g : GRep (fun b => b = mb ∨ b = q) w p mb box R
  r : RefRep (fun b => b = mb ∨ b = q) w q box L
  mb0 : w0.heap.size ≤ mb
  q0 : w0.heap.size ≤ q
  mb1 : mb < w.heap.size
  q1 : q < w.heap.size
  pq : p ≠ q
  pm : p ≠ mb
  mq : mb ≠ q

theorem PP.nws {w0 w w' : World} {p mb q : Nat} {box : List Rng} {R L : List Rec} (h : PP w0 w p mb q box R L) (hk : Nw w w') : PP w0 w' p mb q box R L :=
  ⟨h.nw.trans hk, h.g.nw hk, h.r.nw hk, h.mb0, h.q0, Nat.lt_of_lt_of_le h.mb1 hk.size, Nat.lt_of_lt_of_le h.q1 hk.size, h.pq, h.pm, h.mq⟩
/-- What lies in the caller's memory lies outside both. -/
theorem PP.recs {w0 w : World} {p mb q : Nat} {box : List Rng} {R L : List Rec} (h : PP w0 w p mb q box R L) {v : Value} {l : List Rec} (hv : Recs (Old w0) w0 v l) : Recs (fun b => b = mb ∨ b = q) w v l :=
  (hv.kp (Nw.to h.nw)).mono (fun b _ hb => by unfold Old; rcases hb with rfl | rfl; exact h.mb0; exact h.q0)

/-- What an Add leaves, of whom. -/
def AddDone (n : Nat) (w0 w : World) (p mb q : Nat) (box : List Rng) (R L : List Rec) (e : Ending) (w' : World) : Prop :=
  e = .returned (.int .i64 n) ∧ PP w0 w' p mb q box R L ∧ Kp (fun b => b = mb ∨ b = q) w w'

theorem PP.add {w0 w : World} {p mb q : Nat} {box : List Rng} {R L l : List Rec} {v : Value} (h : PP w0 w p mb q box R L) (hl : Recs (fun b => b = mb ∨ b = q) w v l) (wl : WfL l) (wb : WfB box) (hbl : box.length ≤ 1000000000000) (hRl : R.length + l.length ≤ 1000000000) :
    Calls Try.prog 15 #[.pointer (some ⟨p, 0, none⟩), v] w (AddDone (gcnt box R l) w0 w p mb q box (gadd box R l) L) := by
  have h1 := h.mb1
  have h2 := h.q1
  refine (add_any (fun b => b = mb ∨ b = q) p mb box R l v w h.g (Or.inl rfl) (fun b hb hx => by omega) hl wl wb hbl (by omega)).mono fun e w' ⟨he, hk, hg⟩ => ⟨he, ⟨Nw.kpX h.nw hk (fun i e => by rw [e]; exact h.mb0), hg, ?_, h.mb0, h.q0, Nat.lt_of_lt_of_le h1 hk.size, Nat.lt_of_lt_of_le h2 hk.size, h.pq, h.pm, h.mq⟩, hk.mono (fun k _ e => Or.inl e)⟩
  exact h.r.kp hk (fun k _ e => Or.inl e) (fun e => h.mq e.symm)
theorem PP.radd {w0 w : World} {p mb q : Nat} {box : List Rng} {R L l : List Rec} {v : Value} (h : PP w0 w p mb q box R L) (hl : Recs (fun b => b = mb ∨ b = q) w v l) (wl : WfL l) (wb : WfB box) (hs : Srt L) (hbl : box.length ≤ 1000000000000) (hRl : L.length + l.length ≤ 1000000000) :
    Calls Try.prog 19 #[.pointer (some ⟨q, 0, none⟩), v] w (AddDone (gcnt box L l) w0 w p mb q box R (gadd box L l)) := by
  have h1 := h.mb1
  have h2 := h.q1
  refine (refAdd_any (fun b => b = mb ∨ b = q) q box L l v w h.r (Or.inr rfl) (fun b hb hx => by omega) hl wl wb hs hbl hRl).mono fun e w' ⟨he, hk, hg⟩ => ⟨he, ⟨Nw.kpX h.nw hk (fun i e => by rw [e]; exact h.q0), ?_, hg, h.mb0, h.q0, Nat.lt_of_lt_of_le h1 hk.size, Nat.lt_of_lt_of_le h2 hk.size, h.pq, h.pm, h.mq⟩, hk.mono (fun k _ e => Or.inr e)⟩
  exact h.g.kp hk (fun k _ e => Or.inr e) h.pq h.mq
theorem RefRep.mono {X Y : Nat → Prop} {w : World} {q : Nat} {box : List Rng} {L : List Rec} (h : RefRep X w q box L) (hY : ∀ b, b < w.heap.size → Y b → X b) : RefRep Y w q box L := by
  obtain ⟨vb, vl, hb, hr, hl⟩ := h
  exact ⟨vb, vl, hb, hr.mono hY, hl.mono hY⟩
/-- What a Fork leaves: another gathering at p2, its map in mb2; the elder one is there still, and a store into its map turns nothing of the others. -/
def ForkDone (w0 w : World) (p mb q : Nat) (box : List Rng) (R L : List Rec) (e : Ending) (w' : World) : Prop :=
  ∃ p2 mb2, e = .returned (.pointer (some ⟨p2, 0, none⟩)) ∧ PP w0 w' p mb q box R L ∧ ∀ w2 w3, Nw w' w2 → Kp (fun b => b = mb) w2 w3 → PP w0 w3 p2 mb2 q box R L
theorem PP.fork {w0 w : World} {p mb q : Nat} {box : List Rng} {R L : List Rec} (h : PP w0 w p mb q box R L) :
    Calls Try.prog 20 #[.pointer (some ⟨p, 0, none⟩)] w (ForkDone w0 w p mb q box R L) := by
  have h1 := h.mb1
  have h2 := h.q1
  have h0 := h.nw.size
  have h3 := h.mq
  have h4 := h.mb0
  refine (fork_any _ p mb box R w h.g).mono fun e w' ⟨p2, mb2, he, hnw, a1, a2, a3, a4, a5, hg⟩ => ⟨p2, mb2, he, h.nws hnw, fun w2 w3 h12 hk => ?_⟩
  have hs := h12.size
  have hg1 : GRep (fun b => b = mb ∨ b = mb2 ∨ b = q) w' p2 mb2 box R := hg.mono (fun b _ hb => by rcases hb with rfl | rfl | rfl; exact Or.inl (Or.inl rfl); exact Or.inr a2; exact Or.inl (Or.inr rfl))
  have hr1 : RefRep (fun b => b = mb ∨ b = mb2 ∨ b = q) w' q box L := (h.r.mono (Y := fun b => b = mb ∨ b = mb2 ∨ b = q) (fun b hb e => by rcases e with rfl | rfl | rfl; exact Or.inl rfl; omega; exact Or.inr rfl)).nw hnw
  exact ⟨Nw.kpX ((h.nw.trans hnw).trans h12) hk (fun i e => by rw [e]; exact h4), ((hg1.nw h12).kp hk (fun k _ e => Or.inl e) (by omega) (by omega)).mono (fun b _ h => Or.inr h), ((hr1.nw h12).kp hk (fun k _ e => Or.inl e) (by omega)).mono (fun b _ h => Or.inr h), by omega, h.q0, by have := hk.size; omega, by have := hk.size; omega, by omega, a5, by omega⟩

/-- All that came, one answer behind the other. -/
def gadds (box : List Rng) (ls : List (List Rec)) (k : Nat) : List Rec := (ls.take k).foldl (fun R l => gadd box R l) []
theorem gadds_succ (box : List Rng) (ls : List (List Rec)) (k : Nat) (h : k < ls.length) : gadds box ls (k + 1) = gadd box (gadds box ls k) (ls.getD k []) := by
  unfold gadds
  rw [List.take_succ_eq_append_getElem h, List.foldl_append]
  simp [h]
theorem srt_gadds (box : List Rng) (ls : List (List Rec)) : ∀ k, k ≤ ls.length → Srt (gadds box ls k)
  | 0, _ => by simp [gadds, Srt]
  | k + 1, h => by rw [gadds_succ box ls k (by omega)]; exact srt_gadd _ _ _ (srt_gadds box ls k (by omega))

end Go.Proofs.Ytkehhopdppampaa
