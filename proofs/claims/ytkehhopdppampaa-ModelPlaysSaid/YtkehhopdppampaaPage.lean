/-
  Page: gather.Page: some records behind an id, and whether there are more.
-/
import Derived.Test.YtkehhopdppampaaAll
import Derived.Test.YtkehhopdppampaaNil
namespace Go.Proofs.Ytkehhopdppampaa
set_option linter.unusedVariables false
set_option linter.unusedSimpArgs false
open Go.RowKit Go.Sort Go.Maps

/-- A part of a slice of records. -/
theorem Recs.part {X : Nat → Prop} {w : World} {a a' : Option Addr} {n cap : Nat} {l : List Rec} (h : Recs X w (.slice a n cap) l) (k m cap' : Nat) (hk : k + m ≤ l.length) (hc : m ≤ cap')
    (ha : 0 < m → ∃ b o, a = some ⟨b, o, none⟩ ∧ a' = some ⟨b, o + k * 3, none⟩) : Recs X w (.slice a' m cap') ((l.drop k).take m) := by
  obtain ⟨a0, c, hv, hl, hcc⟩ := h
  injection hv with h1 h2 h3
  subst h1 h2 h3
  have hlen : ((l.drop k).take m).length = m := by simp; omega
  refine ⟨_, _, by rw [hlen], by omega, fun hp => ?_⟩
  rw [hlen] at hp
  obtain ⟨b, o, rfl, rfl⟩ := ha hp
  obtain ⟨b', o', e, hx, hcell⟩ := hcc (by omega)
  cases e
  refine ⟨_, _, rfl, hx, fun j hj => ?_⟩
  rw [hlen] at hj
  have e1 : rx ((l.drop k).take m) j = rx l (k + j) := by
    rw [rx_get (by rw [hlen]; exact hj), rx_get (by omega)]
    simp
  have := hcell (k + j) (by omega)
  rw [e1]
  rw [show o + k * 3 + j * 3 = o + (k + j) * 3 by omega]
  exact this
/-- Fresh records: new memory, whatever was there. -/
def FRecs (B : Nat) (w : World) (v : Value) (l : List Rec) : Prop := ∀ Y, Fresh B Y → Recs Y w v l

/-- What of R lies behind an id. -/
def behind (after : Int) (first : Bool) (R : List Rec) : List Rec := if first then R else R.dropWhile fun r => decide (r.id ≤ after)
def pageN (n : Int) (len : Nat) : Nat := (min (max n 0) len).toNat

theorem pageN_le (n : Int) (len : Nat) : pageN n len ≤ len := by unfold pageN; omega
def moreB (n : Int) (len : Nat) : Bool := decide (min (max n 0) (len : Int) < len)
theorem moreB_iff (n : Int) (len : Nat) : moreB n len = decide (pageN n len < len) := by
  unfold moreB pageN
  rw [decide_eq_decide]; omega
theorem behind_first (after : Int) (R : List Rec) : behind after true R = R := rfl
theorem behind_drop {after : Int} {R : List Rec} {k : Nat} (h : ∀ j, j < k → (rx R j).id ≤ after) (hk : k ≤ R.length) (hs : k < R.length → ¬ (rx R k).id ≤ after) : behind after false R = R.drop k := by
  unfold behind
  simp only [Bool.false_eq_true, if_false]
  induction k generalizing R with
  | zero =>
    cases R with
    | nil => rfl
    | cons r R =>
      have := hs (by simp)
      rw [List.dropWhile_cons]
      have e : rx (r :: R) 0 = r := by simp [rx]
      rw [e] at this
      simp [this]
  | succ k ih =>
    cases R with
    | nil => simp at hk
    | cons r R =>
      have h0 := h 0 (by omega)
      have e : rx (r :: R) 0 = r := by simp [rx]
      have es : ∀ j, rx (r :: R) (j + 1) = rx R j := fun j => by simp [rx]
      rw [e] at h0
      rw [List.dropWhile_cons]
      simp only [h0, decide_true, if_true, List.drop_succ_cons]
      exact ih (fun j hj => by rw [← es j]; exact h (j + 1) (by omega)) (by simpa using hk) (fun hj => by rw [← es k]; exact hs (by simpa using hj))

set_option maxRecDepth 100000 in
set_option maxHeartbeats 1000000 in
theorem page_any (X : Nat → Prop) (p mb : Nat) (box : List Rng) (R : List Rec) (after n : Int) (first : Bool) (w : World) (hG : GRep X w p mb box R) (hS : Srt R) (hW : WfL R) (hn : R.length ≤ 1073741824) :
    Calls Try.prog 18 #[.pointer (some ⟨p, 0, none⟩), .int .u64 after, .bool first, .int .i64 n] w fun e w' => ∃ v, e = .returned (.tuple #[v, .bool (moreB n (behind after first R).length)]) ∧ Nw w w' ∧
      FRecs w.heap.size w' v ((behind after first R).take (pageN n (behind after first R).length)) := by
  go_enter Try.func18, Try.ntmps18
  go_wp2_with fail
  refine (all_any X p mb box R w hG hS hW hn).mono ?_
  rintro e W ⟨v, rfl, hnw, hB⟩
  have HF : Hid (FRecs w.heap.size W v R) := hid (fun Y hY => hB.recs hY)
  have HNW := hid hnw
  obtain ⟨a, cap, rfl, hcl, hcc⟩ := HF.out (fun _ => False) (fun _ _ h => h)
  clear hnw hB
  go_wp2
  cases first
  · go_loop [10] (fun lv => ∃ k : Nat, ∃ a' cap', k ≤ R.length ∧ lv = .slice a' (R.length - k) cap' ∧ R.length - k ≤ cap' ∧ Hid (∀ j, j < k → (rx R j).id ≤ after) ∧ Hid (k < R.length → ∃ b o, a = some ⟨b, o, none⟩ ∧ a' = some ⟨b, o + k * 3, none⟩)) (fun lv => match lv with | .slice _ n _ => n | _ => 0)
    case atStart => exact ⟨0, a, cap, by omega, by simp, by omega, hid (fun j hj => absurd hj (by omega)), hid (fun h => by obtain ⟨b, o, e, _⟩ := hcc h; exact ⟨b, o, e, by simpa using e⟩)⟩
    case round =>
      obtain ⟨k, a', cap', hk, rfl, hc', HA, HK⟩ := hrel
      by_cases hlt : k < R.length
      · obtain ⟨b, o, rfl, rfl⟩ := HK.out hlt
        obtain ⟨b', o', e, _, hcell⟩ := hcc (by omega)
        cases e
        obtain ⟨s, c0, _, _, _⟩ := hcell k hlt
        have hS1 : 0 < R.length - k := by omega
        obtain ⟨m, hm⟩ : ∃ m : Nat, R.length - k = m + 1 := ⟨R.length - k - 1, by omega⟩
        rw [hm] at hc' ⊢
        obtain ⟨c2, rfl⟩ : ∃ c2 : Nat, cap' = c2 + 1 := ⟨cap' - 1, by omega⟩
        by_cases hle : (rx R k).id ≤ after
        · have HLE := hid hle
          generalize hz : (rx R k).id = z at *
          have HZ := hid hz
          clear hcc hcell HK hz
          go_wp2
          go_round
          case rel => exact ⟨k + 1, _, c2, by omega, by rw [show R.length - (k + 1) = m by omega], by omega, hid (fun j hj => by
              by_cases e : j = k
              · rw [e]; exact HZ.out ▸ HLE.out
              · exact HA.out j (by omega)), hid (fun h => ⟨b, o, rfl, by rw [if_neg (by omega)]; simp [Nat.add_mul, Nat.add_assoc]⟩)⟩
          case measure => simp
        · have E := hid (behind_drop HA.out hk (fun _ => hle))
          have hd : decide ((rx R k).id ≤ after) = false := by simpa using hle
          have hp := (HF.out)
          generalize (rx R k).id = z at *
          clear hcc hcell
          go_wp2
          refine bodyPost_ret (v := .tuple #[.slice (some ⟨b, o + k * 3, none⟩) (pageN n (m + 1)) (pageN n (m + 1)), .bool (moreB n (m + 1))]) (by simp [results, Try.results18, go_sem, pageN, moreB]) rfl ?_
          rw [E.out, List.length_drop, hm]
          refine ⟨_, rfl, HNW.out, fun Y hY => ?_⟩
          exact (HF.out Y hY).part k (pageN n (m + 1)) _ (by have := pageN_le n (m + 1); omega) (Nat.le_refl _) (fun _ => ⟨b, o, rfl, rfl⟩)
      · have E := hid (behind_drop HA.out hk (fun h => absurd h hlt))
        have e : R.length - k = 0 := by omega
        rw [e]
        have hkk : k = R.length := by omega
        clear hcc HK HA
        go_wp2
        refine bodyPost_ret (v := .tuple #[.slice a' (pageN n 0) (pageN n 0), .bool (moreB n 0)]) (by simp [results, Try.results18, go_sem, pageN, moreB]) rfl ?_
        rw [E.out, List.length_drop, e]
        refine ⟨_, rfl, HNW.out, fun Y hY => ?_⟩
        have h0 : pageN n 0 = 0 := by have := pageN_le n 0; omega
        rw [h0]
        exact (HF.out Y hY).part k 0 0 (by omega) (Nat.le_refl _) (fun h => absurd h (by omega))
  · refine wp_loop_rounds 1 ?_
    rw [rounds_succ]
    go_wp2
    refine bodyPost_ret (v := .tuple #[.slice a (pageN n R.length) (pageN n R.length), .bool (moreB n R.length)]) (by simp [results, Try.results18, go_sem, pageN, moreB]) rfl ⟨_, rfl, HNW.out, fun Y hY => ?_⟩
    have := (HF.out Y hY).part (a' := a) 0 (pageN n R.length) (pageN n R.length) (by have := pageN_le n R.length; omega) (Nat.le_refl _) (fun h => by obtain ⟨b, o, e, _⟩ := hcc (by have := pageN_le n R.length; omega); exact ⟨b, o, e, by simpa using e⟩)
    rw [behind_first]
    simpa using this

end Go.Proofs.Ytkehhopdppampaa
