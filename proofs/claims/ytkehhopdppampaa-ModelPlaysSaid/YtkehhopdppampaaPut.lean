/-
  Put: petasosref18.put, walked.
-/
import Derived.Test.YtkehhopdppampaaPutL
import Derived.Deep.RegionHeld3
namespace Go.Proofs.Ytkehhopdppampaa
set_option linter.unusedVariables false
set_option linter.unusedSimpArgs false
open Go.RowKit Go.Sort Go.Maps

/-- What petasosref18.put leaves. -/
def PutDone (X : Nat → Prop) (l : List Rec) (r : Rec) (w : World) (e : Ending) (w' : World) : Prop :=
  ∃ v, e = .returned (.tuple #[v, .bool (newer l r)]) ∧ Nw w w' ∧ Recs X w' v (if newer l r then rput r l else l)
/-- What petasoshelp.CopyRecord leaves. -/
def Copied2 (r : Rec) (w : World) (e : Ending) (w' : World) : Prop := ∃ v', e = .returned v' ∧ Nw w w' ∧ ∀ Y, Fresh w.heap.size Y → RecV Y w' v' r

def joinS (n : Nat) (S S' : Nat → Value) : Nat → Value := fun j => if j < n then S j else S' (j - n)
theorem rows_join (S S' : Nat → Value) (l m : List Rec) : rowsFrom (recC (joinS l.length S S')) 0 (l ++ m) = rowsFrom (recC S) 0 l ++ rowsFrom (recC S') 0 m := by
  rw [rows_append, rows_congr (g := recC S) l 0 (fun j _ h2 x => by simp [recC, joinS]; omega)]
  rw [rows_shift S' (joinS l.length S S') l.length m 0 (fun j _ => by show (if 0 + l.length + j < l.length then _ else _) = _; rw [if_neg (by omega)]; congr 1; omega)]
theorem SrcC.recap {size : Nat} {w : World} {a : Option Addr} {n c m : Nat} {news : List Value} (h : SrcC size w (.slice a n c) m news) (c' : Nat) : SrcC size w (.slice a n c') m news := by
  obtain ⟨a0, c0, e, h1, h2, h3⟩ := h
  injection e with e1 e2 e3
  subst e1 e2
  exact ⟨_, _, rfl, h1, h2, h3⟩
theorem src00 {size : Nat} {w : World} (a : Option Addr) (c : Nat) : SrcC size w (.slice a 0 c) 0 [] := ⟨_, _, rfl, by simp, (fun u hu => by cases hu), fun h => absurd h (by omega)⟩
theorem srcE {size : Nat} {w : World} {m : Nat} (h : m = 0) (a : Option Addr) (c : Nat) : SrcC size w (.slice a m c) m [] := by subst h; exact src00 a c
theorem srcZ {w : World} {l : List Rec} {k : Nat} {S : Nat → Value} (h : l.length - k = 0) (a' : Option Addr) (c' : Nat) : SrcC 3 w (.slice a' (l.length - k) c') (l.length - k) (rowsFrom (recC S) 0 (l.drop k)) := by
  have e : l.drop k = [] := List.drop_of_length_le (by omega)
  rw [e]
  exact ⟨_, _, rfl, by simp [rowsFrom, h], fun u hu => by simp [rowsFrom] at hu, fun h2 => absurd h2 (by omega)⟩
/-- The three appends of a put, behind them. -/
theorem put_fin {X : Nat → Prop} {w5 W1 W2 W3 W4 : World} {A C : List Rec} {r : Rec} {SA SB : Nat → Value} {v1 v3 v4 s2 : Value} {o : Obj} {n m : Nat} (hX : Fresh w5.heap.size X) (hn : n = A.length) (hm : m = C.length)
    (hA : ∀ j, j < A.length → Nums X .u32 w5 (SA j) (rx A j).vals) (hC : ∀ j, j < C.length → Nums X .u32 w5 (SB j) (rx C j).vals)
    (hown1 : W1.ownsRow w5.heap.size 30 3 v1 (0 + n) ([] ++ rowsFrom (recC SA) 0 A)) (hgrow1 : w5.drew.grownBy W1 (Value.slice none 0 0).ownBlock) (hat1 : v1.ownBlock = (Value.slice none 0 0).ownBlock ∨ v1.ownBlock = some w5.drew.heap.size)
    (hnw2 : Nw W1 W2) (hs2 : ∀ Y, Fresh W1.heap.size Y → Nums Y .u32 W2 s2 r.vals)
    (hown3 : W3.ownsRow w5.heap.size 30 3 v3 (0 + n + 1) ([] ++ rowsFrom (recC SA) 0 A ++ [.int .u64 r.id, .int .u64 r.ver, s2])) (hgrow3 : (W2.alloc o).grownBy W3 v1.ownBlock) (hat3 : v3.ownBlock = v1.ownBlock ∨ v3.ownBlock = some (W2.alloc o).heap.size)
    (hown4 : W4.ownsRow w5.heap.size 30 3 v4 (0 + n + 1 + m) ([] ++ rowsFrom (recC SA) 0 A ++ [.int .u64 r.id, .int .u64 r.ver, s2] ++ rowsFrom (recC SB) 0 C)) (hgrow4 : W3.grownBy W4 v3.ownBlock) (hat4 : v4.ownBlock = v3.ownBlock ∨ v4.ownBlock = some W3.heap.size) :
    Recs X W4 v4 (A ++ [r] ++ C) := by
  subst hn hm
  have lt1 := World.ownsRow.lt hown1
  have lt3 := World.ownsRow.lt hown3
  have hnw1 : Nw w5 W1 := Nw.grown (Gr.drew w5).nw hgrow1 (fun q hq => by cases hq)
  have hnw3 : Nw w5 W3 := Nw.grown ((hnw1.trans hnw2).trans (Gr.alloc _ _).nw) hgrow3 (fun q hq => (lt1 q hq).1)
  have n1 : ∀ j, j < A.length → Nums (fun b => X b ∨ v1.ownBlock = some b) .u32 W1 (SA j) (rx A j).vals := fun j hj =>
    Nums.appended (v := .slice none 0 0) ((hA j hj).mono (fun b _ h => h.elim id (fun h => by cases h))) (Gr.drew w5).nw hgrow1 hat1
  have hs : Nums (fun b => X b ∨ v1.ownBlock = some b) .u32 W2 s2 r.vals := hs2 _ (fun b hb h => h.elim (hX b (Nat.le_trans hnw1.size hb)) (fun h => by have := (lt1 b h).2; omega))
  have e3 : [] ++ rowsFrom (recC SA) 0 A ++ [.int .u64 r.id, .int .u64 r.ver, s2] = rowsFrom (recC (joinS A.length SA (fun _ => s2))) 0 (A ++ [r]) := by
    rw [rows_join]
    simp [rowsFrom, recC]
  have n3 : ∀ j, j < (A ++ [r]).length → Nums (fun b => X b ∨ v3.ownBlock = some b) .u32 W3 (joinS A.length SA (fun _ => s2) j) (rx (A ++ [r]) j).vals := fun j hj => by
    simp only [List.length_append, List.length_cons, List.length_nil] at hj
    by_cases e : j < A.length
    · simp only [joinS, e, if_true]
      rw [rx_append_left e]
      exact Nums.appended (n1 j e) (hnw2.trans (Gr.alloc _ _).nw) hgrow3 hat3
    · simp only [joinS, e, if_false]
      rw [rx_append_right (by omega) (by simpa using hj)]
      have : rx [r] (j - A.length) = r := by rw [show j - A.length = 0 by omega]; rfl
      rw [this]
      exact Nums.appended hs (Gr.alloc _ _).nw hgrow3 hat3
  rw [e3] at hown4
  have L := Lst.app (B := w5.heap.size) (X := X) (l := A ++ [r]) (m := C) (S := joinS A.length SA (fun _ => s2)) (S' := SB) n3 (Nw.refl _) (fun j hj => ((hC j hj).mono (fun b hb h => h.elim id (fun h => by have := (lt3 b h).1; omega))).kp (Nw.to hnw3)) (by simpa using hown4) hgrow4 hat4
  exact L.recs (fun b _ h => Or.inl h) (fun b h1 _ h => hX b h1 h)
theorem one_cells {X : Nat → Prop} {w : World} {s : Value} {l : List Int} {x y : Int} (h : Nums X .u32 w s l) : ∀ u ∈ (#[Value.int .u64 x, Value.int .u64 y, s] : Array Value).toList, u.oneCell' = true := by
  obtain ⟨_, _, e, _⟩ := h
  intro u hu
  simp at hu
  rcases hu with rfl | rfl | rfl
  · rfl
  · rfl
  · rw [e]; rfl

set_option maxRecDepth 100000 in
set_option maxHeartbeats 4000000 in
theorem put_any (X : Nat → Prop) (vl vr : Value) (l : List Rec) (r : Rec) (w : World) (hl : Recs X w vl l) (hr : RecV X w vr r) (hF : Fresh w.heap.size X) (hs : Srt l) (hll : l.length ≤ 1000000000) (hrl : r.vals.length ≤ 1000000000000) :
    Calls Try.prog 42 #[vl, vr] w (PutDone X l r w) := by
  have hm := mixed
  obtain ⟨i0, hi0, hz0, hz1, hz2⟩ := info_parts infoRec
  have HRL := hid hl
  obtain ⟨s, rfl, hn⟩ := hr
  have hn' := hn
  obtain ⟨sa, sc, rfl, hsl, _⟩ := hn'
  obtain ⟨a, cap, rfl, hcl, hcc⟩ := hl
  have HC := hid hcc
  have HN := hid hn
  clear hcc hn
  go_enter Try.func42, Try.ntmps42
  go_wp2
  generalize hW : w.alloc (.cells #[.int .u64 r.id, .int .u64 r.ver, .slice sa r.vals.length sc] 30) = W
  have g0 : Gr w W := by rw [← hW]; exact Gr.alloc _ _
  have b0 : W.cell? ⟨w.heap.size, 0, none⟩ = some (.int .u64 r.id) := by rw [← hW]; simp
  have b1 : W.cell? ⟨w.heap.size, 1, none⟩ = some (.int .u64 r.ver) := by rw [← hW]; simp
  have b2 : W.cell? ⟨w.heap.size, 2, none⟩ = some (.slice sa r.vals.length sc) := by rw [← hW]; simp
  have HG0 := hid g0
  clear hW g0
  go_loopw [6] (fun i wr => ∃ k : Nat, k ≤ l.length ∧ i = .int .i64 k ∧ Hid (∀ j, j < k → (rx l j).id < r.id) ∧ Hid (Gr W wr)) (fun i _ => l.length - (intOf i).toNat)
  case atStart => exact ⟨0, by omega, by simp, hid (fun j hj => absurd hj (by omega)), hid (Gr.refl _)⟩
  case round =>
    obtain ⟨k, hk, rfl, HA, HG⟩ := hrel
    have b0 := HG.out.cell b0
    have b1 := HG.out.cell b1
    have b2 := HG.out.cell b2
    by_cases hlt : k < l.length
    · obtain ⟨b, o, rfl, hx, hcell⟩ := HC.out (by omega)
      obtain ⟨s', c0, c1, c2, hs'⟩ := hcell k hlt
      have e0 := HG.out.cell (HG0.out.cell c0)
      have e1 := HG.out.cell (HG0.out.cell c1)
      clear hcell c0 c1 c2 hs'
      by_cases hid1 : (rx l k).id < r.id
      · have hd : decide ((rx l k).id < r.id) = true := by simpa using hid1
        have HD := hid hid1
        go_wp2_with fail
        go_quiet (fail)
        go_wp2
        go_roundw
        case rel => exact ⟨k + 1, by omega, by go_num, hid (fun j hj => by
            by_cases e : j = k
            · rw [e]; exact HD.out
            · exact HA.out j (by omega)), hid (HG.out.trans (Gr.drewN _ _))⟩
        case measure => simp [intOf]; omega
      · have hd : decide ((rx l k).id < r.id) = false := by simpa using hid1
        have HD := hid hid1
        by_cases hid2 : (rx l k).id = r.id
        · have hd2 : ((rx l k).id == r.id) = true := by simpa using hid2
          by_cases hver : (rx l k).ver < r.ver
          · have hd3 : decide (r.ver ≤ (rx l k).ver) = false := by simp; omega
            by_cases hcz : cap - (k + 1) = 0
            · skip
              have hd3' : decide ((rx l k).ver < r.ver) = true := by simpa using hver
              have PN : Hid (newer l r = true ∧ rput r l = l.take k ++ [r] ++ l.drop (k + 1)) := hid ⟨(put_old hs HA.out hlt hid2).1.trans hd3', (put_old hs HA.out hlt hid2).2⟩
              clear hd3'
              go_wp2_with fail
              go_quiet (fail)
              go_wp2_with fail
              go_quiet (fail)
              go_wp2_with fail
              go_quiet (fail)
              go_wp2_with fail
              generalize hq1 : wr.drewN _ = w4
              generalize hq2 : w4.drewN _ = w4b
              generalize hq3 : w4b.drewN _ = w5
              have GW5 : Hid (Gr w w5) := hid (by rw [← hq3, ← hq2, ← hq1]; exact (((HG0.out.trans HG.out).trans (Gr.drewN _ _)).trans (Gr.drewN _ _)).trans (Gr.drewN _ _))
              have b0 : w5.cell? ⟨w.heap.size, 0, none⟩ = some (.int .u64 r.id) := by rw [← hq3, ← hq2, ← hq1]; exact b0
              have b1 : w5.cell? ⟨w.heap.size, 1, none⟩ = some (.int .u64 r.ver) := by rw [← hq3, ← hq2, ← hq1]; exact b1
              have b2 : w5.cell? ⟨w.heap.size, 2, none⟩ = some (.slice sa r.vals.length sc) := by rw [← hq3, ← hq2, ← hq1]; exact b2
              have hcopy : ∀ W', Nw w5 W' → Calls Try.prog 44 #[.agg #[.int .u64 r.id, .int .u64 r.ver, .slice sa r.vals.length sc]] W' (Copied2 r W') := fun W' h => copyRec_any X _ r W' ⟨_, rfl, HN.out.kp (Nw.to (GW5.out.nw.trans h))⟩ hrl
              clear hq1 hq2 hq3 e0 e1 hd hd2 hd3 hid1 hid2 hver HG
              obtain ⟨SA, hA1, hA2⟩ := (HRL.out.part (a' := some ⟨b, o, none⟩) 0 k cap (by omega) (by omega) (fun _ => ⟨_, _, rfl, by simp⟩)).src
              rw [List.drop_zero, show (l.take k).length = k by simp; omega] at hA1 hA2
              have hA := hid (And.intro hA1 hA2)
              clear hA1 hA2
              obtain ⟨SB, hB1, hB2⟩ := (HRL.out.part (a' := some ⟨b, o, none⟩) (k + 1) (l.length - (k + 1)) (cap - (k + 1)) (by omega) (by omega) (fun h => absurd h (by omega))).src
              rw [List.take_of_length_le (by simp), List.length_drop] at hB1 hB2
              have HSB := hid (SrcC.kp (X := fun _ => False) hB1 (Gr.nw GW5.out))
              have HNB := hid hB2
              clear hB1 hB2
              have HSA := hid (SrcC.kp (X := fun _ => False) (hA.out.1) (Gr.nw GW5.out))
              have HNA := hid hA.out.2
              have hwr1 : IntKind.i64.wrap ((k : Int) + 1) = (k : Int) + 1 := IntWalk.i64_in _ (by omega)
              have hwr6 : (0 : Int) ≤ (k : Int) := by omega
              have hwr7 : (k : Int) ≤ (cap : Int) := by omega
              have hwr8 : (l.length : Int) ≤ (cap : Int) := by omega
              have hwr3 : (0 : Int) ≤ (k : Int) + 1 := by omega
              have hwr4 : (k : Int) + 1 ≤ (l.length : Int) := by omega
              have hwr5 : ((k : Int) + 1).toNat = k + 1 := by omega
              go_region_held3 (fun w' => w'.cell? ⟨w.heap.size, 0, none⟩ = some (.int .u64 r.id) ∧ w'.cell? ⟨w.heap.size, 1, none⟩ = some (.int .u64 r.ver) ∧ w'.cell? ⟨w.heap.size, 2, none⟩ = some (.slice sa r.vals.length sc))
                (first
                  | go_keep
                  | exact ⟨K1.out _ _ b0, K1.out _ _ b1, K1.out _ _ b2⟩
                  | exact ⟨K2.out _ _ b0, K2.out _ _ b1, K2.out _ _ b2⟩
                  | exact ⟨K3.out _ _ b0, K3.out _ _ b1, K3.out _ _ b2⟩
                  | exact ⟨K4.out _ _ b0, K4.out _ _ b1, K4.out _ _ b2⟩)
                (first
                  | ((refine step_app _ (by rfl) (.const (.slice none 0 0)) (.tmp 48) 23 (by rfl) w5.heap.size 30 i0 _ 3 40 Try.underlying23 hi0 hz0 hz1 hz2 rfl (by decide) (.slice none 0 0) 0 [] (by rfl) (World.ownsRow_nil _ _ _ _) _ k _ (by rfl) (SrcC.kp (X := fun _ => False) HSA.out (Gr.drew _).nw) (by unfold maxLen; omega) (by omega) (Nat.le_refl _) ?_); intro v1 W1 hown1 hgrow1 hat1; have hnw1 : Nw w5 W1 := Nw.grown (Gr.drew w5).nw hgrow1 (fun q hq => by cases hq); have K1 : Hid (∀ (a : Addr) (v : Value), w5.cell? a = some v → W1.cell? a = some v) := hid (fun a v h => hnw1.cell h (fun h => h)))
                  | (go_at_call 44; refine (hcopy _ hnw1).mono ?_; rintro e W2 ⟨v2, rfl, hnw2, hrec2⟩; obtain ⟨s2, rfl, hs2⟩ := RecV.fresh hrec2; have K2 : Hid (∀ (a : Addr) (v : Value), w5.cell? a = some v → W2.cell? a = some v) := hid (fun a v h => (hnw1.trans hnw2).cell h (fun h => h)))
                  | ((refine step_app _ (by rfl) (.tmp 49) (.tmp 52) 23 (by rfl) w5.heap.size 30 i0 _ 3 40 Try.underlying23 hi0 hz0 hz1 hz2 rfl (by decide) v1 _ _ (by rfl) (Built.keptS hown1 (hnw2.trans (Gr.alloc _ _).nw)) _ 1 [.int .u64 r.id, .int .u64 r.ver, s2] (by rfl) (src_one W2 #[.int .u64 r.id, .int .u64 r.ver, s2] 30 (one_cells (hs2 (fun _ => False) (fun _ _ h => h)))) (by unfold maxLen; omega) (by omega) (((hnw1.trans hnw2).trans (Gr.alloc _ _).nw).size) ?_); intro v3 W3 hown3 hgrow3 hat3; have hnw3 : Nw w5 W3 := Nw.grown ((hnw1.trans hnw2).trans (Gr.alloc _ _).nw) hgrow3 (fun q hq => (World.ownsRow.lt hown1 q hq).1); have K3 : Hid (∀ (a : Addr) (v : Value), w5.cell? a = some v → W3.cell? a = some v) := hid (fun a v h => hnw3.cell h (fun h => h)))
                  | ((refine step_app _ (by rfl) (.tmp 53) (.tmp 57) 23 (by rfl) w5.heap.size 30 i0 _ 3 40 Try.underlying23 hi0 hz0 hz1 hz2 rfl (by decide) v3 _ _ (by rfl) hown3 _ (l.length - (k + 1)) _ (by rfl) (SrcC.recap (SrcC.kp (X := fun _ => False) HSB.out hnw3) _) (by unfold maxLen; omega) (by omega) (hnw3.size) ?_); intro v4 W4 hown4 hgrow4 hat4; have hnw4 : Nw w5 W4 := Nw.grown hnw3 hgrow4 (fun q hq => (World.ownsRow.lt hown3 q hq).1); have K4 : Hid (∀ (a : Addr) (v : Value), w5.cell? a = some v → W4.cell? a = some v) := hid (fun a v h => hnw4.cell h (fun h => h))))
              clear hwr1 hwr3 hwr4 hwr5 hwr6 hwr7 hwr8
              have FIN : Hid (Nw w W4 ∧ Recs X W4 v4 (l.take k ++ [r] ++ l.drop (k + 1))) := hid ⟨GW5.out.nw.trans hnw4, put_fin (n := k) (m := l.length - (k + 1)) (fun b hb => hF b (Nat.le_trans GW5.out.size hb)) (by simp; omega) (by simp) (fun j hj => (HNA.out j (by simp at hj; omega)).kp (GW5.out.kp X)) (fun j hj => (HNB.out j (by simpa using hj)).kp (GW5.out.kp X)) hown1 hgrow1 hat1.out hnw2 hs2 hown3 hgrow3 hat3.out hown4 hgrow4 hat4.out⟩
              clear hown1 hgrow1 hat1 hnw1 K1 hnw2 hrec2 hs2 K2 hown3 hgrow3 hat3 hnw3 K3 hown4 hgrow4 hat4 hnw4 K4 hcopy HSA HSB HNA HNB b0 b1 b2
              go_wp2
              refine bodyPost_ret (v := .tuple #[v4, .bool true]) (by simp [results, Try.results42, go_sem]) rfl ⟨v4, by rw [PN.out.1], FIN.out.1, ?_⟩
              rw [PN.out.1, if_pos rfl, PN.out.2]
              exact FIN.out.2
            · skip
              have hd3' : decide ((rx l k).ver < r.ver) = true := by simpa using hver
              have PN : Hid (newer l r = true ∧ rput r l = l.take k ++ [r] ++ l.drop (k + 1)) := hid ⟨(put_old hs HA.out hlt hid2).1.trans hd3', (put_old hs HA.out hlt hid2).2⟩
              clear hd3'
              go_wp2_with fail
              go_quiet (fail)
              go_wp2_with fail
              go_quiet (fail)
              go_wp2_with fail
              go_quiet (fail)
              go_wp2_with fail
              generalize hq1 : wr.drewN _ = w4
              generalize hq2 : w4.drewN _ = w4b
              generalize hq3 : w4b.drewN _ = w5
              have GW5 : Hid (Gr w w5) := hid (by rw [← hq3, ← hq2, ← hq1]; exact (((HG0.out.trans HG.out).trans (Gr.drewN _ _)).trans (Gr.drewN _ _)).trans (Gr.drewN _ _))
              have b0 : w5.cell? ⟨w.heap.size, 0, none⟩ = some (.int .u64 r.id) := by rw [← hq3, ← hq2, ← hq1]; exact b0
              have b1 : w5.cell? ⟨w.heap.size, 1, none⟩ = some (.int .u64 r.ver) := by rw [← hq3, ← hq2, ← hq1]; exact b1
              have b2 : w5.cell? ⟨w.heap.size, 2, none⟩ = some (.slice sa r.vals.length sc) := by rw [← hq3, ← hq2, ← hq1]; exact b2
              have hcopy : ∀ W', Nw w5 W' → Calls Try.prog 44 #[.agg #[.int .u64 r.id, .int .u64 r.ver, .slice sa r.vals.length sc]] W' (Copied2 r W') := fun W' h => copyRec_any X _ r W' ⟨_, rfl, HN.out.kp (Nw.to (GW5.out.nw.trans h))⟩ hrl
              clear hq1 hq2 hq3 e0 e1 hd hd2 hd3 hid1 hid2 hver HG
              obtain ⟨SA, hA1, hA2⟩ := (HRL.out.part (a' := some ⟨b, o, none⟩) 0 k cap (by omega) (by omega) (fun _ => ⟨_, _, rfl, by simp⟩)).src
              rw [List.drop_zero, show (l.take k).length = k by simp; omega] at hA1 hA2
              have hA := hid (And.intro hA1 hA2)
              clear hA1 hA2
              obtain ⟨SB, hB1, hB2⟩ := (HRL.out.part (a' := some ⟨b, o + (k + 1) * 3, none⟩) (k + 1) (l.length - (k + 1)) (cap - (k + 1)) (by omega) (by omega) (fun _ => ⟨_, _, rfl, rfl⟩)).src
              rw [List.take_of_length_le (by simp), List.length_drop] at hB1 hB2
              have HSB := hid (SrcC.kp (X := fun _ => False) hB1 (Gr.nw GW5.out))
              have HNB := hid hB2
              clear hB1 hB2
              have HSA := hid (SrcC.kp (X := fun _ => False) (hA.out.1) (Gr.nw GW5.out))
              have HNA := hid hA.out.2
              have hwr1 : IntKind.i64.wrap ((k : Int) + 1) = (k : Int) + 1 := IntWalk.i64_in _ (by omega)
              have hwr6 : (0 : Int) ≤ (k : Int) := by omega
              have hwr7 : (k : Int) ≤ (cap : Int) := by omega
              have hwr8 : (l.length : Int) ≤ (cap : Int) := by omega
              have hwr3 : (0 : Int) ≤ (k : Int) + 1 := by omega
              have hwr4 : (k : Int) + 1 ≤ (l.length : Int) := by omega
              have hwr5 : ((k : Int) + 1).toNat = k + 1 := by omega
              go_region_held3 (fun w' => w'.cell? ⟨w.heap.size, 0, none⟩ = some (.int .u64 r.id) ∧ w'.cell? ⟨w.heap.size, 1, none⟩ = some (.int .u64 r.ver) ∧ w'.cell? ⟨w.heap.size, 2, none⟩ = some (.slice sa r.vals.length sc))
                (first
                  | go_keep
                  | exact ⟨K1.out _ _ b0, K1.out _ _ b1, K1.out _ _ b2⟩
                  | exact ⟨K2.out _ _ b0, K2.out _ _ b1, K2.out _ _ b2⟩
                  | exact ⟨K3.out _ _ b0, K3.out _ _ b1, K3.out _ _ b2⟩
                  | exact ⟨K4.out _ _ b0, K4.out _ _ b1, K4.out _ _ b2⟩)
                (first
                  | ((refine step_app _ (by rfl) (.const (.slice none 0 0)) (.tmp 48) 23 (by rfl) w5.heap.size 30 i0 _ 3 40 Try.underlying23 hi0 hz0 hz1 hz2 rfl (by decide) (.slice none 0 0) 0 [] (by rfl) (World.ownsRow_nil _ _ _ _) _ k _ (by rfl) (SrcC.kp (X := fun _ => False) HSA.out (Gr.drew _).nw) (by unfold maxLen; omega) (by omega) (Nat.le_refl _) ?_); intro v1 W1 hown1 hgrow1 hat1; have hnw1 : Nw w5 W1 := Nw.grown (Gr.drew w5).nw hgrow1 (fun q hq => by cases hq); have K1 : Hid (∀ (a : Addr) (v : Value), w5.cell? a = some v → W1.cell? a = some v) := hid (fun a v h => hnw1.cell h (fun h => h)))
                  | (go_at_call 44; refine (hcopy _ hnw1).mono ?_; rintro e W2 ⟨v2, rfl, hnw2, hrec2⟩; obtain ⟨s2, rfl, hs2⟩ := RecV.fresh hrec2; have K2 : Hid (∀ (a : Addr) (v : Value), w5.cell? a = some v → W2.cell? a = some v) := hid (fun a v h => (hnw1.trans hnw2).cell h (fun h => h)))
                  | ((refine step_app _ (by rfl) (.tmp 49) (.tmp 52) 23 (by rfl) w5.heap.size 30 i0 _ 3 40 Try.underlying23 hi0 hz0 hz1 hz2 rfl (by decide) v1 _ _ (by rfl) (Built.keptS hown1 (hnw2.trans (Gr.alloc _ _).nw)) _ 1 [.int .u64 r.id, .int .u64 r.ver, s2] (by rfl) (src_one W2 #[.int .u64 r.id, .int .u64 r.ver, s2] 30 (one_cells (hs2 (fun _ => False) (fun _ _ h => h)))) (by unfold maxLen; omega) (by omega) (((hnw1.trans hnw2).trans (Gr.alloc _ _).nw).size) ?_); intro v3 W3 hown3 hgrow3 hat3; have hnw3 : Nw w5 W3 := Nw.grown ((hnw1.trans hnw2).trans (Gr.alloc _ _).nw) hgrow3 (fun q hq => (World.ownsRow.lt hown1 q hq).1); have K3 : Hid (∀ (a : Addr) (v : Value), w5.cell? a = some v → W3.cell? a = some v) := hid (fun a v h => hnw3.cell h (fun h => h)))
                  | ((refine step_app _ (by rfl) (.tmp 53) (.tmp 57) 23 (by rfl) w5.heap.size 30 i0 _ 3 40 Try.underlying23 hi0 hz0 hz1 hz2 rfl (by decide) v3 _ _ (by rfl) hown3 _ (l.length - (k + 1)) _ (by rfl) (SrcC.kp (X := fun _ => False) HSB.out hnw3) (by unfold maxLen; omega) (by omega) (hnw3.size) ?_); intro v4 W4 hown4 hgrow4 hat4; have hnw4 : Nw w5 W4 := Nw.grown hnw3 hgrow4 (fun q hq => (World.ownsRow.lt hown3 q hq).1); have K4 : Hid (∀ (a : Addr) (v : Value), w5.cell? a = some v → W4.cell? a = some v) := hid (fun a v h => hnw4.cell h (fun h => h))))
              clear hwr1 hwr3 hwr4 hwr5 hwr6 hwr7 hwr8
              have FIN : Hid (Nw w W4 ∧ Recs X W4 v4 (l.take k ++ [r] ++ l.drop (k + 1))) := hid ⟨GW5.out.nw.trans hnw4, put_fin (n := k) (m := l.length - (k + 1)) (fun b hb => hF b (Nat.le_trans GW5.out.size hb)) (by simp; omega) (by simp) (fun j hj => (HNA.out j (by simp at hj; omega)).kp (GW5.out.kp X)) (fun j hj => (HNB.out j (by simpa using hj)).kp (GW5.out.kp X)) hown1 hgrow1 hat1.out hnw2 hs2 hown3 hgrow3 hat3.out hown4 hgrow4 hat4.out⟩
              clear hown1 hgrow1 hat1 hnw1 K1 hnw2 hrec2 hs2 K2 hown3 hgrow3 hat3 hnw3 K3 hown4 hgrow4 hat4 hnw4 K4 hcopy HSA HSB HNA HNB b0 b1 b2
              go_wp2
              refine bodyPost_ret (v := .tuple #[v4, .bool true]) (by simp [results, Try.results42, go_sem]) rfl ⟨v4, by rw [PN.out.1], FIN.out.1, ?_⟩
              rw [PN.out.1, if_pos rfl, PN.out.2]
              exact FIN.out.2
          · have hd3 : decide (r.ver ≤ (rx l k).ver) = true := by simp; omega
            have HNV : Hid (newer l r = false) := hid (by rw [(put_old hs HA.out hlt hid2).1]; simpa using hver)
            have HGG := HG
            go_wp2_with fail
            go_quiet (fail)
            go_wp2_with fail
            go_quiet (fail)
            go_wp2_with fail
            go_quiet (fail)
            go_wp2
            refine bodyPost_ret (v := .tuple #[.slice (some ⟨b, o, none⟩) l.length cap, .bool false]) (by simp [results, Try.results42, go_sem]) rfl ⟨_, by rw [HNV.out], (((((HG0.out.trans HGG.out).trans (Gr.drewN _ _)).trans (Gr.drewN _ _)).trans (Gr.drewN _ _))).nw, ?_⟩
            rw [HNV.out, if_neg (by simp)]
            exact HRL.out.kp ((((((HG0.out.trans HGG.out).trans (Gr.drewN _ _)).trans (Gr.drewN _ _)).trans (Gr.drewN _ _))).kp X)
        · have hd2 : ((rx l k).id == r.id) = false := by simpa using hid2
          go_wp2_with fail
          go_quiet (fail)
          go_wp2_with fail
          go_quiet (fail)
          go_wp2_with fail
          have PN := hid (put_new hs HA.out hk (fun _ => by have := HD.out; omega))
          generalize hq1 : wr.drewN _ = w4
          generalize hq2 : w4.drewN _ = w5
          have GW5 : Hid (Gr w w5) := hid (by rw [← hq2, ← hq1]; exact ((HG0.out.trans HG.out).trans (Gr.drewN _ _)).trans (Gr.drewN _ _))
          have b0 : w5.cell? ⟨w.heap.size, 0, none⟩ = some (.int .u64 r.id) := by rw [← hq2, ← hq1]; exact b0
          have b1 : w5.cell? ⟨w.heap.size, 1, none⟩ = some (.int .u64 r.ver) := by rw [← hq2, ← hq1]; exact b1
          have b2 : w5.cell? ⟨w.heap.size, 2, none⟩ = some (.slice sa r.vals.length sc) := by rw [← hq2, ← hq1]; exact b2
          have hcopy : ∀ W', Nw w5 W' → Calls Try.prog 44 #[.agg #[.int .u64 r.id, .int .u64 r.ver, .slice sa r.vals.length sc]] W' (Copied2 r W') := fun W' h => copyRec_any X _ r W' ⟨_, rfl, HN.out.kp (Nw.to (GW5.out.nw.trans h))⟩ hrl
          clear hq1 hq2 e0 e1 hd hd2 hid1 hid2 HG
          obtain ⟨SA, hA1, hA2⟩ := (HRL.out.part (a' := some ⟨b, o, none⟩) 0 k cap (by omega) (by omega) (fun _ => ⟨_, _, rfl, by simp⟩)).src
          rw [List.drop_zero, show (l.take k).length = k by simp; omega] at hA1 hA2
          have hA := hid (And.intro hA1 hA2)
          clear hA1 hA2
          obtain ⟨SB, hB1, hB2⟩ := (HRL.out.part (a' := some ⟨b, o + k * 3, none⟩) k (l.length - k) (cap - k) (by omega) (by omega) (fun _ => ⟨_, _, rfl, rfl⟩)).src
          rw [List.take_of_length_le (by simp), List.length_drop] at hB1 hB2
          have HSB := hid (SrcC.kp (X := fun _ => False) hB1 (Gr.nw GW5.out))
          have HNB := hid hB2
          clear hB1 hB2
          have HSA := hid (SrcC.kp (X := fun _ => False) (hA.out.1) (Gr.nw GW5.out))
          have HNA := hid hA.out.2
          have hwr6 : (0 : Int) ≤ (k : Int) := by omega
          have hwr7 : (k : Int) ≤ (cap : Int) := by omega
          have hwr8 : (l.length : Int) ≤ (cap : Int) := by omega
          have hwr9 : (k : Int) ≤ (l.length : Int) := by omega
          go_region_held3 (fun w' => w'.cell? ⟨w.heap.size, 0, none⟩ = some (.int .u64 r.id) ∧ w'.cell? ⟨w.heap.size, 1, none⟩ = some (.int .u64 r.ver) ∧ w'.cell? ⟨w.heap.size, 2, none⟩ = some (.slice sa r.vals.length sc))
            (first
              | go_keep
              | exact ⟨K1.out _ _ b0, K1.out _ _ b1, K1.out _ _ b2⟩
              | exact ⟨K2.out _ _ b0, K2.out _ _ b1, K2.out _ _ b2⟩
              | exact ⟨K3.out _ _ b0, K3.out _ _ b1, K3.out _ _ b2⟩
              | exact ⟨K4.out _ _ b0, K4.out _ _ b1, K4.out _ _ b2⟩)
            (first
              | ((refine step_app _ (by rfl) (.const (.slice none 0 0)) (.tmp 61) 23 (by rfl) w5.heap.size 30 i0 _ 3 40 Try.underlying23 hi0 hz0 hz1 hz2 rfl (by decide) (.slice none 0 0) 0 [] (by rfl) (World.ownsRow_nil _ _ _ _) _ k _ (by rfl) (SrcC.kp (X := fun _ => False) HSA.out (Gr.drew _).nw) (by unfold maxLen; omega) (by omega) (Nat.le_refl _) ?_); intro v1 W1 hown1 hgrow1 hat1; have hnw1 : Nw w5 W1 := Nw.grown (Gr.drew w5).nw hgrow1 (fun q hq => by cases hq); have K1 : Hid (∀ (a : Addr) (v : Value), w5.cell? a = some v → W1.cell? a = some v) := hid (fun a v h => hnw1.cell h (fun h => h)))
              | (go_at_call 44; refine (hcopy _ hnw1).mono ?_; rintro e W2 ⟨v2, rfl, hnw2, hrec2⟩; obtain ⟨s2, rfl, hs2⟩ := RecV.fresh hrec2; have K2 : Hid (∀ (a : Addr) (v : Value), w5.cell? a = some v → W2.cell? a = some v) := hid (fun a v h => (hnw1.trans hnw2).cell h (fun h => h)))
              | ((refine step_app _ (by rfl) (.tmp 62) (.tmp 65) 23 (by rfl) w5.heap.size 30 i0 _ 3 40 Try.underlying23 hi0 hz0 hz1 hz2 rfl (by decide) v1 _ _ (by rfl) (Built.keptS hown1 (hnw2.trans (Gr.alloc _ _).nw)) _ 1 [.int .u64 r.id, .int .u64 r.ver, s2] (by rfl) (src_one W2 #[.int .u64 r.id, .int .u64 r.ver, s2] 30 (one_cells (hs2 (fun _ => False) (fun _ _ h => h)))) (by unfold maxLen; omega) (by omega) (((hnw1.trans hnw2).trans (Gr.alloc _ _).nw).size) ?_); intro v3 W3 hown3 hgrow3 hat3; have hnw3 : Nw w5 W3 := Nw.grown ((hnw1.trans hnw2).trans (Gr.alloc _ _).nw) hgrow3 (fun q hq => (World.ownsRow.lt hown1 q hq).1); have K3 : Hid (∀ (a : Addr) (v : Value), w5.cell? a = some v → W3.cell? a = some v) := hid (fun a v h => hnw3.cell h (fun h => h)))
              | ((refine step_app _ (by rfl) (.tmp 66) (.tmp 69) 23 (by rfl) w5.heap.size 30 i0 _ 3 40 Try.underlying23 hi0 hz0 hz1 hz2 rfl (by decide) v3 _ _ (by rfl) hown3 _ (l.length - k) _ (by rfl) (SrcC.kp (X := fun _ => False) HSB.out hnw3) (by unfold maxLen; omega) (by omega) (hnw3.size) ?_); intro v4 W4 hown4 hgrow4 hat4; have hnw4 : Nw w5 W4 := Nw.grown hnw3 hgrow4 (fun q hq => (World.ownsRow.lt hown3 q hq).1); have K4 : Hid (∀ (a : Addr) (v : Value), w5.cell? a = some v → W4.cell? a = some v) := hid (fun a v h => hnw4.cell h (fun h => h))))
          have FIN : Hid (Nw w W4 ∧ Recs X W4 v4 (l.take k ++ [r] ++ l.drop k)) := hid ⟨GW5.out.nw.trans hnw4, put_fin (n := k) (m := l.length - k) (fun b hb => hF b (Nat.le_trans GW5.out.size hb)) (by simp; omega) (by simp) (fun j hj => (HNA.out j (by simp at hj; omega)).kp (GW5.out.kp X)) (fun j hj => (HNB.out j (by simpa using hj)).kp (GW5.out.kp X)) hown1 hgrow1 hat1.out hnw2 hs2 hown3 hgrow3 hat3.out hown4 hgrow4 hat4.out⟩
          clear hown1 hgrow1 hat1 hnw1 K1 hnw2 hrec2 hs2 K2 hown3 hgrow3 hat3 hnw3 K3 hown4 hgrow4 hat4 hnw4 K4 hcopy HSA HSB HNA HNB b0 b1 b2
          go_wp2
          refine bodyPost_ret (v := .tuple #[v4, .bool true]) (by simp [results, Try.results42, go_sem]) rfl ⟨v4, by rw [PN.out.1], FIN.out.1, ?_⟩
          rw [PN.out.1, if_pos rfl, PN.out.2]
          exact FIN.out.2
    · by_cases hl0 : l = []
      · subst hl0
        obtain rfl : k = 0 := by simpa using hk
        clear HC
        cases a with
        | none =>
          go_wp2_with fail
          go_quiet (fail)
          go_wp2_with fail
          go_quiet (fail)
          go_wp2_with fail
          have PN : Hid (newer [] r = true ∧ rput r [] = [] ++ [r] ++ []) := hid ⟨rfl, rfl⟩
          generalize hq1 : wr.drewN _ = w4
          generalize hq2 : w4.drewN _ = w5
          have GW5 : Hid (Gr w w5) := hid (by rw [← hq2, ← hq1]; exact ((HG0.out.trans HG.out).trans (Gr.drewN _ _)).trans (Gr.drewN _ _))
          have b0 : w5.cell? ⟨w.heap.size, 0, none⟩ = some (.int .u64 r.id) := by rw [← hq2, ← hq1]; exact b0
          have b1 : w5.cell? ⟨w.heap.size, 1, none⟩ = some (.int .u64 r.ver) := by rw [← hq2, ← hq1]; exact b1
          have b2 : w5.cell? ⟨w.heap.size, 2, none⟩ = some (.slice sa r.vals.length sc) := by rw [← hq2, ← hq1]; exact b2
          have hcopy : ∀ W', Nw w5 W' → Calls Try.prog 44 #[.agg #[.int .u64 r.id, .int .u64 r.ver, .slice sa r.vals.length sc]] W' (Copied2 r W') := fun W' h => copyRec_any X _ r W' ⟨_, rfl, HN.out.kp (Nw.to (GW5.out.nw.trans h))⟩ hrl
          clear hq1 hq2 HG
          go_region_held3 (fun w' => w'.cell? ⟨w.heap.size, 0, none⟩ = some (.int .u64 r.id) ∧ w'.cell? ⟨w.heap.size, 1, none⟩ = some (.int .u64 r.ver) ∧ w'.cell? ⟨w.heap.size, 2, none⟩ = some (.slice sa r.vals.length sc))
            (first
              | go_keep
              | exact ⟨K1.out _ _ b0, K1.out _ _ b1, K1.out _ _ b2⟩
              | exact ⟨K2.out _ _ b0, K2.out _ _ b1, K2.out _ _ b2⟩
              | exact ⟨K3.out _ _ b0, K3.out _ _ b1, K3.out _ _ b2⟩
              | exact ⟨K4.out _ _ b0, K4.out _ _ b1, K4.out _ _ b2⟩)
            (first
              | ((refine step_app _ (by rfl) (.const (.slice none 0 0)) (.tmp 61) 23 (by rfl) w5.heap.size 30 i0 _ 3 40 Try.underlying23 hi0 hz0 hz1 hz2 rfl (by decide) (.slice none 0 0) 0 [] (by rfl) (World.ownsRow_nil _ _ _ _) _ 0 [] (by rfl) (src00 _ _) (by unfold maxLen; omega) (by omega) (Nat.le_refl _) ?_); intro v1 W1 hown1 hgrow1 hat1; have hnw1 : Nw w5 W1 := Nw.grown (Gr.drew w5).nw hgrow1 (fun q hq => by cases hq); have K1 : Hid (∀ (a : Addr) (v : Value), w5.cell? a = some v → W1.cell? a = some v) := hid (fun a v h => hnw1.cell h (fun h => h)))
              | (go_at_call 44; refine (hcopy _ hnw1).mono ?_; rintro e W2 ⟨v2, rfl, hnw2, hrec2⟩; obtain ⟨s2, rfl, hs2⟩ := RecV.fresh hrec2; have K2 : Hid (∀ (a : Addr) (v : Value), w5.cell? a = some v → W2.cell? a = some v) := hid (fun a v h => (hnw1.trans hnw2).cell h (fun h => h)))
              | ((refine step_app _ (by rfl) (.tmp 62) (.tmp 65) 23 (by rfl) w5.heap.size 30 i0 _ 3 40 Try.underlying23 hi0 hz0 hz1 hz2 rfl (by decide) v1 _ _ (by rfl) (Built.keptS hown1 (hnw2.trans (Gr.alloc _ _).nw)) _ 1 [.int .u64 r.id, .int .u64 r.ver, s2] (by rfl) (src_one W2 #[.int .u64 r.id, .int .u64 r.ver, s2] 30 (one_cells (hs2 (fun _ => False) (fun _ _ h => h)))) (by unfold maxLen; omega) (by omega) (((hnw1.trans hnw2).trans (Gr.alloc _ _).nw).size) ?_); intro v3 W3 hown3 hgrow3 hat3; have hnw3 : Nw w5 W3 := Nw.grown ((hnw1.trans hnw2).trans (Gr.alloc _ _).nw) hgrow3 (fun q hq => (World.ownsRow.lt hown1 q hq).1); have K3 : Hid (∀ (a : Addr) (v : Value), w5.cell? a = some v → W3.cell? a = some v) := hid (fun a v h => hnw3.cell h (fun h => h)))
              | ((refine step_app _ (by rfl) (.tmp 66) (.tmp 69) 23 (by rfl) w5.heap.size 30 i0 _ 3 40 Try.underlying23 hi0 hz0 hz1 hz2 rfl (by decide) v3 _ _ (by rfl) hown3 _ 0 [] (by rfl) (src00 _ _) (by unfold maxLen; omega) (by omega) (hnw3.size) ?_); intro v4 W4 hown4 hgrow4 hat4; have hnw4 : Nw w5 W4 := Nw.grown hnw3 hgrow4 (fun q hq => (World.ownsRow.lt hown3 q hq).1); have K4 : Hid (∀ (a : Addr) (v : Value), w5.cell? a = some v → W4.cell? a = some v) := hid (fun a v h => hnw4.cell h (fun h => h))))
          have FIN : Hid (Nw w W4 ∧ Recs X W4 v4 ([] ++ [r] ++ [])) := hid ⟨GW5.out.nw.trans hnw4, put_fin (n := 0) (m := 0) (A := []) (C := []) (SA := fun _ => default) (SB := fun _ => default) (fun b hb => hF b (Nat.le_trans GW5.out.size hb)) rfl rfl (fun j hj => absurd hj (by simp)) (fun j hj => absurd hj (by simp)) hown1 hgrow1 hat1.out hnw2 hs2 hown3 hgrow3 hat3.out hown4 hgrow4 hat4.out⟩
          clear hown1 hgrow1 hat1 hnw1 K1 hnw2 hrec2 hs2 K2 hown3 hgrow3 hat3 hnw3 K3 hown4 hgrow4 hat4 hnw4 K4 hcopy b0 b1 b2
          go_wp2
          refine bodyPost_ret (v := .tuple #[v4, .bool true]) (by simp [results, Try.results42, go_sem]) rfl ⟨v4, by rw [PN.out.1], FIN.out.1, ?_⟩
          rw [PN.out.1, if_pos rfl, PN.out.2]
          exact FIN.out.2
        | some ad =>
          go_wp2_with fail
          go_quiet (fail)
          go_wp2_with fail
          go_quiet (fail)
          go_wp2_with fail
          have PN : Hid (newer [] r = true ∧ rput r [] = [] ++ [r] ++ []) := hid ⟨rfl, rfl⟩
          generalize hq1 : wr.drewN _ = w4
          generalize hq2 : w4.drewN _ = w5
          have GW5 : Hid (Gr w w5) := hid (by rw [← hq2, ← hq1]; exact ((HG0.out.trans HG.out).trans (Gr.drewN _ _)).trans (Gr.drewN _ _))
          have b0 : w5.cell? ⟨w.heap.size, 0, none⟩ = some (.int .u64 r.id) := by rw [← hq2, ← hq1]; exact b0
          have b1 : w5.cell? ⟨w.heap.size, 1, none⟩ = some (.int .u64 r.ver) := by rw [← hq2, ← hq1]; exact b1
          have b2 : w5.cell? ⟨w.heap.size, 2, none⟩ = some (.slice sa r.vals.length sc) := by rw [← hq2, ← hq1]; exact b2
          have hcopy : ∀ W', Nw w5 W' → Calls Try.prog 44 #[.agg #[.int .u64 r.id, .int .u64 r.ver, .slice sa r.vals.length sc]] W' (Copied2 r W') := fun W' h => copyRec_any X _ r W' ⟨_, rfl, HN.out.kp (Nw.to (GW5.out.nw.trans h))⟩ hrl
          clear hq1 hq2 HG
          go_region_held3 (fun w' => w'.cell? ⟨w.heap.size, 0, none⟩ = some (.int .u64 r.id) ∧ w'.cell? ⟨w.heap.size, 1, none⟩ = some (.int .u64 r.ver) ∧ w'.cell? ⟨w.heap.size, 2, none⟩ = some (.slice sa r.vals.length sc))
            (first
              | go_keep
              | exact ⟨K1.out _ _ b0, K1.out _ _ b1, K1.out _ _ b2⟩
              | exact ⟨K2.out _ _ b0, K2.out _ _ b1, K2.out _ _ b2⟩
              | exact ⟨K3.out _ _ b0, K3.out _ _ b1, K3.out _ _ b2⟩
              | exact ⟨K4.out _ _ b0, K4.out _ _ b1, K4.out _ _ b2⟩)
            (first
              | ((refine step_app _ (by rfl) (.const (.slice none 0 0)) (.tmp 61) 23 (by rfl) w5.heap.size 30 i0 _ 3 40 Try.underlying23 hi0 hz0 hz1 hz2 rfl (by decide) (.slice none 0 0) 0 [] (by rfl) (World.ownsRow_nil _ _ _ _) _ 0 [] (by rfl) (src00 _ _) (by unfold maxLen; omega) (by omega) (Nat.le_refl _) ?_); intro v1 W1 hown1 hgrow1 hat1; have hnw1 : Nw w5 W1 := Nw.grown (Gr.drew w5).nw hgrow1 (fun q hq => by cases hq); have K1 : Hid (∀ (a : Addr) (v : Value), w5.cell? a = some v → W1.cell? a = some v) := hid (fun a v h => hnw1.cell h (fun h => h)))
              | (go_at_call 44; refine (hcopy _ hnw1).mono ?_; rintro e W2 ⟨v2, rfl, hnw2, hrec2⟩; obtain ⟨s2, rfl, hs2⟩ := RecV.fresh hrec2; have K2 : Hid (∀ (a : Addr) (v : Value), w5.cell? a = some v → W2.cell? a = some v) := hid (fun a v h => (hnw1.trans hnw2).cell h (fun h => h)))
              | ((refine step_app _ (by rfl) (.tmp 62) (.tmp 65) 23 (by rfl) w5.heap.size 30 i0 _ 3 40 Try.underlying23 hi0 hz0 hz1 hz2 rfl (by decide) v1 _ _ (by rfl) (Built.keptS hown1 (hnw2.trans (Gr.alloc _ _).nw)) _ 1 [.int .u64 r.id, .int .u64 r.ver, s2] (by rfl) (src_one W2 #[.int .u64 r.id, .int .u64 r.ver, s2] 30 (one_cells (hs2 (fun _ => False) (fun _ _ h => h)))) (by unfold maxLen; omega) (by omega) (((hnw1.trans hnw2).trans (Gr.alloc _ _).nw).size) ?_); intro v3 W3 hown3 hgrow3 hat3; have hnw3 : Nw w5 W3 := Nw.grown ((hnw1.trans hnw2).trans (Gr.alloc _ _).nw) hgrow3 (fun q hq => (World.ownsRow.lt hown1 q hq).1); have K3 : Hid (∀ (a : Addr) (v : Value), w5.cell? a = some v → W3.cell? a = some v) := hid (fun a v h => hnw3.cell h (fun h => h)))
              | ((refine step_app _ (by rfl) (.tmp 66) (.tmp 69) 23 (by rfl) w5.heap.size 30 i0 _ 3 40 Try.underlying23 hi0 hz0 hz1 hz2 rfl (by decide) v3 _ _ (by rfl) hown3 _ 0 [] (by rfl) (src00 _ _) (by unfold maxLen; omega) (by omega) (hnw3.size) ?_); intro v4 W4 hown4 hgrow4 hat4; have hnw4 : Nw w5 W4 := Nw.grown hnw3 hgrow4 (fun q hq => (World.ownsRow.lt hown3 q hq).1); have K4 : Hid (∀ (a : Addr) (v : Value), w5.cell? a = some v → W4.cell? a = some v) := hid (fun a v h => hnw4.cell h (fun h => h))))
          have FIN : Hid (Nw w W4 ∧ Recs X W4 v4 ([] ++ [r] ++ [])) := hid ⟨GW5.out.nw.trans hnw4, put_fin (n := 0) (m := 0) (A := []) (C := []) (SA := fun _ => default) (SB := fun _ => default) (fun b hb => hF b (Nat.le_trans GW5.out.size hb)) rfl rfl (fun j hj => absurd hj (by simp)) (fun j hj => absurd hj (by simp)) hown1 hgrow1 hat1.out hnw2 hs2 hown3 hgrow3 hat3.out hown4 hgrow4 hat4.out⟩
          clear hown1 hgrow1 hat1 hnw1 K1 hnw2 hrec2 hs2 K2 hown3 hgrow3 hat3 hnw3 K3 hown4 hgrow4 hat4 hnw4 K4 hcopy b0 b1 b2
          go_wp2
          refine bodyPost_ret (v := .tuple #[v4, .bool true]) (by simp [results, Try.results42, go_sem]) rfl ⟨v4, by rw [PN.out.1], FIN.out.1, ?_⟩
          rw [PN.out.1, if_pos rfl, PN.out.2]
          exact FIN.out.2
      · have hlp : 0 < l.length := List.length_pos_iff.2 hl0
        obtain ⟨b, o, rfl, _, _⟩ := HC.out hlp
        clear HC hl0
        by_cases hcz : cap - k = 0
        · skip
          go_wp2_with fail
          go_quiet (fail)
          go_wp2_with fail
          go_quiet (fail)
          go_wp2_with fail
          have PN : Hid (newer l r = true ∧ rput r l = l.take k ++ [r] ++ []) := hid (by
            have h := put_new hs HA.out hk (fun h => absurd h hlt)
            rw [List.drop_of_length_le (by omega)] at h
            exact h)
          generalize hq1 : wr.drewN _ = w4
          generalize hq2 : w4.drewN _ = w5
          have GW5 : Hid (Gr w w5) := hid (by rw [← hq2, ← hq1]; exact ((HG0.out.trans HG.out).trans (Gr.drewN _ _)).trans (Gr.drewN _ _))
          have b0 : w5.cell? ⟨w.heap.size, 0, none⟩ = some (.int .u64 r.id) := by rw [← hq2, ← hq1]; exact b0
          have b1 : w5.cell? ⟨w.heap.size, 1, none⟩ = some (.int .u64 r.ver) := by rw [← hq2, ← hq1]; exact b1
          have b2 : w5.cell? ⟨w.heap.size, 2, none⟩ = some (.slice sa r.vals.length sc) := by rw [← hq2, ← hq1]; exact b2
          have hcopy : ∀ W', Nw w5 W' → Calls Try.prog 44 #[.agg #[.int .u64 r.id, .int .u64 r.ver, .slice sa r.vals.length sc]] W' (Copied2 r W') := fun W' h => copyRec_any X _ r W' ⟨_, rfl, HN.out.kp (Nw.to (GW5.out.nw.trans h))⟩ hrl
          clear hq1 hq2 HG
          obtain ⟨SA, hA1, hA2⟩ := (HRL.out.part (a' := some ⟨b, o, none⟩) 0 k cap (by omega) (by omega) (fun _ => ⟨_, _, rfl, by simp⟩)).src
          rw [List.drop_zero, show (l.take k).length = k by simp; omega] at hA1 hA2
          have hA := hid (And.intro hA1 hA2)
          clear hA1 hA2
          have HSA := hid (SrcC.kp (X := fun _ => False) (hA.out.1) (Gr.nw GW5.out))
          have HNA := hid hA.out.2
          have hwr6 : (0 : Int) ≤ (k : Int) := by omega
          have hwr7 : (k : Int) ≤ (cap : Int) := by omega
          have hwr8 : (l.length : Int) ≤ (cap : Int) := by omega
          have hwr9 : (k : Int) ≤ (l.length : Int) := by omega
          go_region_held3 (fun w' => w'.cell? ⟨w.heap.size, 0, none⟩ = some (.int .u64 r.id) ∧ w'.cell? ⟨w.heap.size, 1, none⟩ = some (.int .u64 r.ver) ∧ w'.cell? ⟨w.heap.size, 2, none⟩ = some (.slice sa r.vals.length sc))
            (first
              | go_keep
              | exact ⟨K1.out _ _ b0, K1.out _ _ b1, K1.out _ _ b2⟩
              | exact ⟨K2.out _ _ b0, K2.out _ _ b1, K2.out _ _ b2⟩
              | exact ⟨K3.out _ _ b0, K3.out _ _ b1, K3.out _ _ b2⟩
              | exact ⟨K4.out _ _ b0, K4.out _ _ b1, K4.out _ _ b2⟩)
            (first
              | ((refine step_app _ (by rfl) (.const (.slice none 0 0)) (.tmp 61) 23 (by rfl) w5.heap.size 30 i0 _ 3 40 Try.underlying23 hi0 hz0 hz1 hz2 rfl (by decide) (.slice none 0 0) 0 [] (by rfl) (World.ownsRow_nil _ _ _ _) _ k _ (by rfl) (SrcC.kp (X := fun _ => False) HSA.out (Gr.drew _).nw) (by unfold maxLen; omega) (by omega) (Nat.le_refl _) ?_); intro v1 W1 hown1 hgrow1 hat1; have hnw1 : Nw w5 W1 := Nw.grown (Gr.drew w5).nw hgrow1 (fun q hq => by cases hq); have K1 : Hid (∀ (a : Addr) (v : Value), w5.cell? a = some v → W1.cell? a = some v) := hid (fun a v h => hnw1.cell h (fun h => h)))
              | (go_at_call 44; refine (hcopy _ hnw1).mono ?_; rintro e W2 ⟨v2, rfl, hnw2, hrec2⟩; obtain ⟨s2, rfl, hs2⟩ := RecV.fresh hrec2; have K2 : Hid (∀ (a : Addr) (v : Value), w5.cell? a = some v → W2.cell? a = some v) := hid (fun a v h => (hnw1.trans hnw2).cell h (fun h => h)))
              | ((refine step_app _ (by rfl) (.tmp 62) (.tmp 65) 23 (by rfl) w5.heap.size 30 i0 _ 3 40 Try.underlying23 hi0 hz0 hz1 hz2 rfl (by decide) v1 _ _ (by rfl) (Built.keptS hown1 (hnw2.trans (Gr.alloc _ _).nw)) _ 1 [.int .u64 r.id, .int .u64 r.ver, s2] (by rfl) (src_one W2 #[.int .u64 r.id, .int .u64 r.ver, s2] 30 (one_cells (hs2 (fun _ => False) (fun _ _ h => h)))) (by unfold maxLen; omega) (by omega) (((hnw1.trans hnw2).trans (Gr.alloc _ _).nw).size) ?_); intro v3 W3 hown3 hgrow3 hat3; have hnw3 : Nw w5 W3 := Nw.grown ((hnw1.trans hnw2).trans (Gr.alloc _ _).nw) hgrow3 (fun q hq => (World.ownsRow.lt hown1 q hq).1); have K3 : Hid (∀ (a : Addr) (v : Value), w5.cell? a = some v → W3.cell? a = some v) := hid (fun a v h => hnw3.cell h (fun h => h)))
              | ((refine step_app _ (by rfl) (.tmp 66) (.tmp 69) 23 (by rfl) w5.heap.size 30 i0 _ 3 40 Try.underlying23 hi0 hz0 hz1 hz2 rfl (by decide) v3 _ _ (by rfl) hown3 _ _ [] (by rfl) (srcE (by omega) _ _) (by unfold maxLen; omega) (by omega) (hnw3.size) ?_); intro v4 W4 hown4 hgrow4 hat4; have hnw4 : Nw w5 W4 := Nw.grown hnw3 hgrow4 (fun q hq => (World.ownsRow.lt hown3 q hq).1); have K4 : Hid (∀ (a : Addr) (v : Value), w5.cell? a = some v → W4.cell? a = some v) := hid (fun a v h => hnw4.cell h (fun h => h))))
          clear hwr6 hwr7 hwr8 hwr9
          have FIN : Hid (Nw w W4 ∧ Recs X W4 v4 (l.take k ++ [r] ++ [])) := hid ⟨GW5.out.nw.trans hnw4, put_fin (n := k) (m := _) (C := []) (SB := fun _ => default) (fun b hb => hF b (Nat.le_trans GW5.out.size hb)) (by simp; omega) (by show _ = 0; omega) (fun j hj => (HNA.out j (by simp at hj; omega)).kp (GW5.out.kp X)) (fun j hj => absurd hj (by simp)) hown1 hgrow1 hat1.out hnw2 hs2 hown3 hgrow3 hat3.out hown4 hgrow4 hat4.out⟩
          clear hown1 hgrow1 hat1 hnw1 K1 hnw2 hrec2 hs2 K2 hown3 hgrow3 hat3 hnw3 K3 hown4 hgrow4 hat4 hnw4 K4 hcopy HSA HNA b0 b1 b2
          go_wp2
          refine bodyPost_ret (v := .tuple #[v4, .bool true]) (by simp [results, Try.results42, go_sem]) rfl ⟨v4, by rw [PN.out.1], FIN.out.1, ?_⟩
          rw [PN.out.1, if_pos rfl, PN.out.2]
          exact FIN.out.2
        · skip
          go_wp2_with fail
          go_quiet (fail)
          go_wp2_with fail
          go_quiet (fail)
          go_wp2_with fail
          have PN : Hid (newer l r = true ∧ rput r l = l.take k ++ [r] ++ []) := hid (by
            have h := put_new hs HA.out hk (fun h => absurd h hlt)
            rw [List.drop_of_length_le (by omega)] at h
            exact h)
          generalize hq1 : wr.drewN _ = w4
          generalize hq2 : w4.drewN _ = w5
          have GW5 : Hid (Gr w w5) := hid (by rw [← hq2, ← hq1]; exact ((HG0.out.trans HG.out).trans (Gr.drewN _ _)).trans (Gr.drewN _ _))
          have b0 : w5.cell? ⟨w.heap.size, 0, none⟩ = some (.int .u64 r.id) := by rw [← hq2, ← hq1]; exact b0
          have b1 : w5.cell? ⟨w.heap.size, 1, none⟩ = some (.int .u64 r.ver) := by rw [← hq2, ← hq1]; exact b1
          have b2 : w5.cell? ⟨w.heap.size, 2, none⟩ = some (.slice sa r.vals.length sc) := by rw [← hq2, ← hq1]; exact b2
          have hcopy : ∀ W', Nw w5 W' → Calls Try.prog 44 #[.agg #[.int .u64 r.id, .int .u64 r.ver, .slice sa r.vals.length sc]] W' (Copied2 r W') := fun W' h => copyRec_any X _ r W' ⟨_, rfl, HN.out.kp (Nw.to (GW5.out.nw.trans h))⟩ hrl
          clear hq1 hq2 HG
          obtain ⟨SA, hA1, hA2⟩ := (HRL.out.part (a' := some ⟨b, o, none⟩) 0 k cap (by omega) (by omega) (fun _ => ⟨_, _, rfl, by simp⟩)).src
          rw [List.drop_zero, show (l.take k).length = k by simp; omega] at hA1 hA2
          have hA := hid (And.intro hA1 hA2)
          clear hA1 hA2
          have HSA := hid (SrcC.kp (X := fun _ => False) (hA.out.1) (Gr.nw GW5.out))
          have HNA := hid hA.out.2
          have hwr6 : (0 : Int) ≤ (k : Int) := by omega
          have hwr7 : (k : Int) ≤ (cap : Int) := by omega
          have hwr8 : (l.length : Int) ≤ (cap : Int) := by omega
          have hwr9 : (k : Int) ≤ (l.length : Int) := by omega
          go_region_held3 (fun w' => w'.cell? ⟨w.heap.size, 0, none⟩ = some (.int .u64 r.id) ∧ w'.cell? ⟨w.heap.size, 1, none⟩ = some (.int .u64 r.ver) ∧ w'.cell? ⟨w.heap.size, 2, none⟩ = some (.slice sa r.vals.length sc))
            (first
              | go_keep
              | exact ⟨K1.out _ _ b0, K1.out _ _ b1, K1.out _ _ b2⟩
              | exact ⟨K2.out _ _ b0, K2.out _ _ b1, K2.out _ _ b2⟩
              | exact ⟨K3.out _ _ b0, K3.out _ _ b1, K3.out _ _ b2⟩
              | exact ⟨K4.out _ _ b0, K4.out _ _ b1, K4.out _ _ b2⟩)
            (first
              | ((refine step_app _ (by rfl) (.const (.slice none 0 0)) (.tmp 61) 23 (by rfl) w5.heap.size 30 i0 _ 3 40 Try.underlying23 hi0 hz0 hz1 hz2 rfl (by decide) (.slice none 0 0) 0 [] (by rfl) (World.ownsRow_nil _ _ _ _) _ k _ (by rfl) (SrcC.kp (X := fun _ => False) HSA.out (Gr.drew _).nw) (by unfold maxLen; omega) (by omega) (Nat.le_refl _) ?_); intro v1 W1 hown1 hgrow1 hat1; have hnw1 : Nw w5 W1 := Nw.grown (Gr.drew w5).nw hgrow1 (fun q hq => by cases hq); have K1 : Hid (∀ (a : Addr) (v : Value), w5.cell? a = some v → W1.cell? a = some v) := hid (fun a v h => hnw1.cell h (fun h => h)))
              | (go_at_call 44; refine (hcopy _ hnw1).mono ?_; rintro e W2 ⟨v2, rfl, hnw2, hrec2⟩; obtain ⟨s2, rfl, hs2⟩ := RecV.fresh hrec2; have K2 : Hid (∀ (a : Addr) (v : Value), w5.cell? a = some v → W2.cell? a = some v) := hid (fun a v h => (hnw1.trans hnw2).cell h (fun h => h)))
              | ((refine step_app _ (by rfl) (.tmp 62) (.tmp 65) 23 (by rfl) w5.heap.size 30 i0 _ 3 40 Try.underlying23 hi0 hz0 hz1 hz2 rfl (by decide) v1 _ _ (by rfl) (Built.keptS hown1 (hnw2.trans (Gr.alloc _ _).nw)) _ 1 [.int .u64 r.id, .int .u64 r.ver, s2] (by rfl) (src_one W2 #[.int .u64 r.id, .int .u64 r.ver, s2] 30 (one_cells (hs2 (fun _ => False) (fun _ _ h => h)))) (by unfold maxLen; omega) (by omega) (((hnw1.trans hnw2).trans (Gr.alloc _ _).nw).size) ?_); intro v3 W3 hown3 hgrow3 hat3; have hnw3 : Nw w5 W3 := Nw.grown ((hnw1.trans hnw2).trans (Gr.alloc _ _).nw) hgrow3 (fun q hq => (World.ownsRow.lt hown1 q hq).1); have K3 : Hid (∀ (a : Addr) (v : Value), w5.cell? a = some v → W3.cell? a = some v) := hid (fun a v h => hnw3.cell h (fun h => h)))
              | ((refine step_app _ (by rfl) (.tmp 66) (.tmp 69) 23 (by rfl) w5.heap.size 30 i0 _ 3 40 Try.underlying23 hi0 hz0 hz1 hz2 rfl (by decide) v3 _ _ (by rfl) hown3 _ _ [] (by rfl) (srcE (by omega) _ _) (by unfold maxLen; omega) (by omega) (hnw3.size) ?_); intro v4 W4 hown4 hgrow4 hat4; have hnw4 : Nw w5 W4 := Nw.grown hnw3 hgrow4 (fun q hq => (World.ownsRow.lt hown3 q hq).1); have K4 : Hid (∀ (a : Addr) (v : Value), w5.cell? a = some v → W4.cell? a = some v) := hid (fun a v h => hnw4.cell h (fun h => h))))
          clear hwr6 hwr7 hwr8 hwr9
          have FIN : Hid (Nw w W4 ∧ Recs X W4 v4 (l.take k ++ [r] ++ [])) := hid ⟨GW5.out.nw.trans hnw4, put_fin (n := k) (m := _) (C := []) (SB := fun _ => default) (fun b hb => hF b (Nat.le_trans GW5.out.size hb)) (by simp; omega) (by show _ = 0; omega) (fun j hj => (HNA.out j (by simp at hj; omega)).kp (GW5.out.kp X)) (fun j hj => absurd hj (by simp)) hown1 hgrow1 hat1.out hnw2 hs2 hown3 hgrow3 hat3.out hown4 hgrow4 hat4.out⟩
          clear hown1 hgrow1 hat1 hnw1 K1 hnw2 hrec2 hs2 K2 hown3 hgrow3 hat3 hnw3 K3 hown4 hgrow4 hat4 hnw4 K4 hcopy HSA HNA b0 b1 b2
          go_wp2
          refine bodyPost_ret (v := .tuple #[v4, .bool true]) (by simp [results, Try.results42, go_sem]) rfl ⟨v4, by rw [PN.out.1], FIN.out.1, ?_⟩
          rw [PN.out.1, if_pos rfl, PN.out.2]
          exact FIN.out.2

end Go.Proofs.Ytkehhopdppampaa
