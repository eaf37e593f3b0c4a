/-
  OrderL: in whatever order records come, and how often, a gathering has the newest of each id; no program in sight.
-/
import Derived.Test.YtkehhopdppampaaPages
namespace Go.Proofs.Ytkehhopdppampaa
set_option linter.unusedVariables false
set_option linter.unusedSimpArgs false

/-- R is what a gathering has that has seen s. -/
def Seen (box : List Rng) (s R : List Rec) : Prop :=
  Srt R ∧ ∀ r, r ∈ R ↔ (r ∈ s ∧ mB box r.vals = true ∧ ∀ y ∈ s, mB box y.vals = true → y.id = r.id → y.ver ≤ r.ver)
/-- Of no two records both id and version agree. -/
def Own1 (s : List Rec) : Prop := ∀ x ∈ s, ∀ y ∈ s, x.id = y.id → x.ver = y.ver → x = y

theorem rfind_none {k : Int} {R : List Rec} : rfind k R = none ↔ ∀ r ∈ R, r.id ≠ k := by
  unfold rfind
  rw [List.find?_eq_none]
  simp
theorem rfind_some {k : Int} {R : List Rec} {o : Rec} (h : rfind k R = some o) : o ∈ R ∧ o.id = k := by
  unfold rfind at h
  exact ⟨List.mem_of_find?_eq_some h, by simpa using List.find?_some h⟩
theorem Srt.uniq {R : List Rec} (h : Srt R) {x y : Rec} (hx : x ∈ R) (hy : y ∈ R) (e : x.id = y.id) : x = y := by
  obtain ⟨i, hi, rfl⟩ := List.getElem_of_mem hx
  obtain ⟨j, hj, rfl⟩ := List.getElem_of_mem hy
  rcases Nat.lt_trichotomy i j with h1 | h1 | h1
  · have := List.pairwise_iff_getElem.1 h i j hi hj h1; omega
  · subst h1; rfl
  · have := List.pairwise_iff_getElem.1 h j i hj hi h1; omega

theorem Seen.step {box : List Rng} {s R : List Rec} {r : Rec} (h : Seen box s R) (hu : Own1 (s ++ [r])) : Seen box (s ++ [r]) (gadd1 box R r) := by
  obtain ⟨hs, hm⟩ := h
  have hnew : newer R r = true → ∀ y ∈ R, y.id = r.id → y.ver < r.ver := fun hn y hy e => by
    unfold newer at hn
    cases hf : rfind r.id R with
    | none => exact absurd e (rfind_none.1 hf y hy)
    | some o =>
      rw [hf] at hn
      obtain ⟨ho, hoe⟩ := rfind_some hf
      have := hs.uniq hy ho (by omega)
      subst this
      simpa using hn
  have hold : newer R r = false → ∃ y ∈ R, y.id = r.id ∧ r.ver ≤ y.ver := fun hn => by
    unfold newer at hn
    cases hf : rfind r.id R with
    | none => rw [hf] at hn; cases hn
    | some o =>
      rw [hf] at hn
      obtain ⟨ho, hoe⟩ := rfind_some hf
      exact ⟨o, ho, hoe, by simpa using hn⟩
  -- of each id that some matching record of s has, R has one, and the newest
  have hin : ∀ n (y : Rec), y ∈ s → mB box y.vals = true → (∀ z ∈ s, mB box z.vals = true → z.id = y.id → (z.ver - y.ver).toNat ≤ n) → ∃ z ∈ R, z.id = y.id ∧ y.ver ≤ z.ver := by
    intro n
    induction n with
    | zero => exact fun y hy hb hz => ⟨y, (hm y).2 ⟨hy, hb, fun z hz1 hz2 e => by have := hz z hz1 hz2 e; omega⟩, rfl, Int.le_refl _⟩
    | succ n ih =>
      intro y hy hb hz
      by_cases hex : ∃ z ∈ s, mB box z.vals = true ∧ z.id = y.id ∧ y.ver < z.ver
      · obtain ⟨z, hz1, hz2, hz3, hz4⟩ := hex
        obtain ⟨q, hq1, hq2, hq3⟩ := ih z hz1 hz2 (fun q hq1 hq2 hq3 => by have := hz q hq1 hq2 (by omega); omega)
        exact ⟨q, hq1, by omega, by omega⟩
      · exact ⟨y, (hm y).2 ⟨hy, hb, fun z hz1 hz2 e => by
          by_cases h : y.ver < z.ver
          · exact absurd ⟨z, hz1, hz2, e, h⟩ hex
          · omega⟩, rfl, Int.le_refl _⟩
  have hbound : ∀ y : Rec, ∃ n, ∀ z ∈ s, mB box z.vals = true → z.id = y.id → (z.ver - y.ver).toNat ≤ n := by
    intro y
    clear hm hnew hold hin hu
    induction s with
    | nil => exact ⟨0, fun z hz => by cases hz⟩
    | cons a s ih =>
      obtain ⟨n, hn⟩ := ih
      exact ⟨max n (a.ver - y.ver).toNat, fun z hz h1 h2 => by
        rcases List.mem_cons.1 hz with rfl | hz
        · omega
        · have := hn z hz h1 h2; omega⟩
  have htop : ∀ y : Rec, y ∈ s → mB box y.vals = true → ∃ z ∈ R, z.id = y.id ∧ y.ver ≤ z.ver := fun y hy hb => by
    obtain ⟨n, hn⟩ := hbound y
    exact hin n y hy hb hn
  unfold gadd1 takes
  by_cases hb : mB box r.vals = true
  · cases hn : newer R r with
    | true =>
      simp only [hb, Bool.true_and, if_true]
      refine ⟨srt_rput hs, fun x => ?_⟩
      rw [mem_rput, hm x, List.mem_append, List.mem_singleton]
      constructor
      · rintro (rfl | ⟨⟨h1, h2, h3⟩, h4⟩)
        · refine ⟨Or.inr rfl, hb, fun y hy hyb e => ?_⟩
          rcases List.mem_append.1 hy with hy | hy
          · obtain ⟨z, hz, hze, hzv⟩ := htop y hy hyb
            have := hnew hn z hz (by omega); omega
          · rw [List.mem_singleton.1 hy]; exact Int.le_refl _
        · refine ⟨Or.inl h1, h2, fun y hy hyb e => ?_⟩
          rcases List.mem_append.1 hy with hy | hy
          · exact h3 y hy hyb e
          · rw [List.mem_singleton.1 hy] at e; omega
      · rintro ⟨h1 | rfl, h2, h3⟩
        · by_cases e : x.id = r.id
          · left
            have h4 := h3 r (List.mem_append.2 (Or.inr (List.mem_singleton.2 rfl))) hb e.symm
            have h5 : x ∈ R := (hm x).2 ⟨h1, h2, fun y hy hyb e => h3 y (List.mem_append.2 (Or.inl hy)) hyb e⟩
            have := hnew hn x h5 e
            omega
          · right
            exact ⟨⟨h1, h2, fun y hy hyb e => h3 y (List.mem_append.2 (Or.inl hy)) hyb e⟩, e⟩
        · exact Or.inl rfl
    | false =>
      simp only [hb, Bool.true_and, Bool.false_eq_true, if_false]
      refine ⟨hs, fun x => ?_⟩
      rw [hm x, List.mem_append, List.mem_singleton]
      obtain ⟨q, hq, hqe, hqv⟩ := hold hn
      have hq2 := (hm q).1 hq
      constructor
      · rintro ⟨h1, h2, h3⟩
        refine ⟨Or.inl h1, h2, fun y hy hyb e => ?_⟩
        rcases List.mem_append.1 hy with hy | hy
        · exact h3 y hy hyb e
        · rw [List.mem_singleton.1 hy] at e ⊢
          have := h3 q hq2.1 hq2.2.1 (by omega); omega
      · rintro ⟨h1 | rfl, h2, h3⟩
        · exact ⟨h1, h2, fun y hy hyb e => h3 y (List.mem_append.2 (Or.inl hy)) hyb e⟩
        · have h4 := h3 q (List.mem_append.2 (Or.inl hq2.1)) hq2.2.1 hqe
          have e : q = x := hu q (List.mem_append.2 (Or.inl hq2.1)) x (List.mem_append.2 (Or.inr (List.mem_singleton.2 rfl))) hqe (by omega)
          rw [← e]
          exact hq2
  · have hb' : mB box r.vals = false := by simpa using hb
    simp only [hb', Bool.false_and, Bool.false_eq_true, if_false]
    refine ⟨hs, fun x => ?_⟩
    rw [hm x, List.mem_append, List.mem_singleton]
    constructor
    · rintro ⟨h1, h2, h3⟩
      refine ⟨Or.inl h1, h2, fun y hy hyb e => ?_⟩
      rcases List.mem_append.1 hy with hy | hy
      · exact h3 y hy hyb e
      · rw [List.mem_singleton.1 hy] at hyb; exact absurd hyb hb
    · rintro ⟨h1 | rfl, h2, h3⟩
      · exact ⟨h1, h2, fun y hy hyb e => h3 y (List.mem_append.2 (Or.inl hy)) hyb e⟩
      · exact absurd h2 hb
theorem Seen.all {box : List Rng} : ∀ (l s R : List Rec), Seen box s R → Own1 (s ++ l) → Seen box (s ++ l) (gadd box R l)
  | [], s, R, h, _ => by simpa [gadd] using h
  | r :: l, s, R, h, hu => by
    have h1 : Seen box (s ++ [r]) (gadd1 box R r) := h.step (fun x hx y hy => hu x (by simp at hx ⊢; rcases hx with h | h; exact Or.inl h; exact Or.inr (Or.inl h)) y (by simp at hy ⊢; rcases hy with h | h; exact Or.inl h; exact Or.inr (Or.inl h)))
    have h2 := Seen.all l (s ++ [r]) _ h1 (by simpa using hu)
    simpa [gadd] using h2
theorem Seen.start (box : List Rng) : Seen box [] [] := ⟨by simp [Srt], fun r => by simp⟩
theorem Seen.same {box : List Rng} {s t R Q : List Rec} (h1 : Seen box s R) (h2 : Seen box t Q) (hst : ∀ r, r ∈ s ↔ r ∈ t) : R = Q := by
  have hmem : ∀ r, r ∈ R ↔ r ∈ Q := fun r => by
    rw [h1.2 r, h2.2 r, hst r]
    constructor
    · rintro ⟨a, b, c⟩; exact ⟨a, b, fun y hy => c y ((hst y).2 hy)⟩
    · rintro ⟨a, b, c⟩; exact ⟨a, b, fun y hy => c y ((hst y).1 hy)⟩
  have nd : ∀ {L : List Rec}, Srt L → L.Nodup := fun h => List.Pairwise.imp (fun h e => by subst e; omega) h
  have hp : R.Perm Q := (List.perm_ext_iff_of_nodup (nd h1.1) (nd h2.1)).2 hmem
  exact List.Perm.eq_of_pairwise (le := fun x y : Rec => x.id < y.id) (fun a b _ _ h1 h2 => by omega) h1.1 h2.1 hp
/-- Two roads, the same records: the same is there. -/
theorem order_law {box : List Rng} {s t : List Rec} (hu : Own1 s) (hst : ∀ r, r ∈ s ↔ r ∈ t) : gadd box [] s = gadd box [] t := by
  have h1 := Seen.all s [] [] (Seen.start box) (by simpa using hu)
  have h2 := Seen.all t [] [] (Seen.start box) (by rw [List.nil_append]; exact fun x hx y hy => hu x ((hst x).2 hx) y ((hst y).2 hy))
  exact Seen.same (by simpa using h1) (by simpa using h2) hst

end Go.Proofs.Ytkehhopdppampaa
