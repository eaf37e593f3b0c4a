/-
  RefDrop: the reference's model: drop.
-/
import Derived.Test.YtkehhopdppampaaRefNote
namespace Go.Proofs.Ytkehhopdppampaa
set_option linter.unusedVariables false
set_option linter.unusedSimpArgs false
open Go.RowKit Go.Sort Go.Maps

/-! ### drop -/
def dropL (id : Int) (L : List Rec) : List Rec := L.filter fun r => decide (r.id ≠ id)
theorem RM.store {B : Nat} {Z : Nat → Prop} {w w2 : World} {q : Nat} {attrs : Int} {L L2 : List Rec} {ids lst : List Int} {v : Value} (h : RM B Z w q attrs L ids lst) (hk : Nw w w2) (hv : Recs Z w2 v L2) : Turned Z w (w2.setCell ⟨q, 1, none⟩ v) Z ∧ RM B Z (w2.setCell ⟨q, 1, none⟩ v) q attrs L2 ids lst := by
  obtain ⟨la, lc, ia, ic, ta, tc, h1, h2, h3, h4, h5, h6, h7, h8⟩ := h.nw hk
  have kq : Kp (fun b => b = q) w2 (w2.setCell ⟨q, 1, none⟩ v) := (Kp.refl (fun b => b = q) w2).setCell (p := ⟨q, 1, none⟩) rfl _
  have kZ : Kp Z w2 (w2.setCell ⟨q, 1, none⟩ v) := kq.mono (fun b _ e => by rw [e]; exact h5)
  obtain ⟨va, vc, rfl, _, _⟩ := id hv
  refine ⟨⟨(Nw.to hk).trans kZ, fun b h => Or.inl h⟩, va, vc, ia, ic, ta, tc, ?_, hv.kp kZ, own_kp h3 kq (fun b hb => (h6 b hb).2), own_kp h4 kq (fun b hb => (h7 b hb).2.1), h5, h6, h7, fun b hb => ⟨(h8 b hb).1, Nat.lt_of_lt_of_le (h8 b hb).2 kq.size⟩⟩
  have e1 := heap_setCell_same w2 q 1 _ _ (.slice va L2.length vc) h1
  simpa using e1

theorem drop_snoc (id : Int) (L : List Rec) (k : Nat) (h : k < L.length) : dropL id (L.take (k + 1)) = if (rx L k).id = id then dropL id (L.take k) else dropL id (L.take k) ++ [rx L k] := by
  unfold dropL
  rw [take_snocR L k h, List.filter_append]
  split <;> rename_i e <;> simp [e]

set_option maxRecDepth 100000 in
set_option maxHeartbeats 4000000 in
theorem drop_any (B : Nat) (Z : Nat → Prop) (q : Nat) (attrs : Int) (L : List Rec) (ids lst : List Int) (id : Int) (w : World) (hG : RM B Z w q attrs L ids lst) (hn : L.length ≤ 1000000000) :
    Calls Try.prog 50 #[.pointer (some ⟨q, 0, none⟩), .int .u64 id] w fun e w' => e = .returned (.tuple #[]) ∧ Turned Z w w' Z ∧ RM B Z w' q attrs (dropL id L) ids lst := by
  obtain ⟨i0, hi0, hz0, hz1, hz2⟩ := info_parts infoRec
  have HG := hid hG
  obtain ⟨la, lc, ia, ic, ta, tc, h1, h2, h3, h4, h5, h6, h7, h8⟩ := hG
  have q1 : w.cell? ⟨q, 1, none⟩ = some (.slice la L.length lc) := by simp [World.cell?, h1]
  have g1 : w.frozen? ⟨q, 1, none⟩ = false := by simp [World.frozen?, h1]
  have hqw : q < w.heap.size := (h8 q h5).2
  obtain ⟨la', lc', hlv, hcl, hcc⟩ := h2
  injection hlv with e1 e2 e3
  subst e1 e3
  have HC := hid hcc
  have H8 := hid h8
  clear hcc e2 h1 h3 h4 h5 h6 h7 h8
  go_enter Try.func50, Try.ntmps50
  go_wp2
  go_loopw [4, 5] (fun ov i wr => ∃ k : Nat, k ≤ L.length ∧ i = .int .i64 k ∧ Hid (Nw w wr ∧ Lst w.heap.size Z wr ov (dropL id (L.take k)))) (fun _ i _ => L.length - (intOf i).toNat)
  case atStart => exact ⟨0, by omega, by simp, hid ⟨Nw.refl _, Lst.nil _ _ _⟩⟩
  case round =>
    obtain ⟨k, hk, rfl, HR⟩ := hrel
    have q2 := HR.out.1.cell q1 (fun h => h)
    by_cases hlt : k < L.length
    · obtain ⟨b, o, rfl, hx, hcell⟩ := HC.out (by omega)
      obtain ⟨s, c0, c1, c2, hs⟩ := hcell k hlt
      have e0 := HR.out.1.cell c0 (fun h => h)
      have e1 := HR.out.1.cell c1 (fun h => h)
      have e2 := HR.out.1.cell c2 (fun h => h)
      have hs' := (hs.mono (Y := fun b => Z b ∨ w.heap.size ≤ b) (fun b hb e => e.elim (fun h => h) (fun h => by omega))).kp (Nw.to HR.out.1)
      have hsn := drop_snoc id L k hlt
      obtain ⟨sa, sc, rfl, hsl, hsc⟩ := hs
      have HS := hid hs'
      have HSN := hid hsn
      clear hcell c0 c1 c2 hsc hs' hsn
      generalize rx L k = r at *
      by_cases h1 : r.id = id
      · have hd : (r.id != id) = false := by simpa using h1
        have hsn2 := HSN.out
        rw [if_pos h1] at hsn2
        have HE := hid hsn2
        clear h1 hsn2
        go_wp2
        go_roundw
        case rel => exact ⟨k + 1, by omega, by go_num, hid ⟨HR.out.1, by rw [HE.out]; exact HR.out.2⟩⟩
        case measure => simp [intOf]; omega
      · have hd : (r.id != id) = true := by simpa using h1
        have hsn2 := HSN.out
        rw [if_neg h1] at hsn2
        have HE := hid hsn2
        clear h1 hsn2
        obtain ⟨S, hown, hnn⟩ := HR.out.2
        have HO := hid hown
        have HN := hid hnn
        have HNR := hid HR.out.1
        have hol : (dropL id (L.take k)).length ≤ L.length := Nat.le_trans (List.length_filter_le _ _) (by simp; omega)
        obtain ⟨oa, oc, hov, _⟩ := HR.out.2.form
        generalize dropL id (L.take k) = ds at *
        clear hown hnn HR
        subst hov
        go_wp2_with (at_builtin; refine wpList_app rfl _ _ 23 rfl w.heap.size 30 i0 _ 3 40 Try.underlying23 hi0 hz0 hz1 hz2 rfl (by decide) _ ds.length (rowsFrom (recC S) 0 ds) rfl ?qo _ 1 [.int .u64 r.id, .int .u64 r.ver, .slice sa r.vals.length sc] rfl ?qc1 ?qc2 ?qc3 ?qc4 ?_)
        case qo => exact Built.keptS HO.out (Gr.alloc _ _).nw
        case qc1 => exact src_one wr #[.int .u64 r.id, .int .u64 r.ver, .slice sa r.vals.length sc] 30 (by intro u hu; simp at hu; rcases hu with rfl | rfl | rfl <;> rfl)
        case qc2 => unfold maxLen; omega
        case qc3 => omega
        case qc4 => have e1 := HNR.out.size; simp; omega
        intro v' w1 hown hgrow hat
        have hat' := hat.out
        rw [← World.size_alloc wr (.cells #[.int .u64 r.id, .int .u64 r.ver, .slice sa r.vals.length sc] 30)] at hat'
        have hlv := World.ownsRow.lt HO.out
        have hvs : Nums (fun b => Z b ∨ (Value.slice oa ds.length oc).ownBlock = some b) .u32 wr (.slice sa r.vals.length sc) r.vals := HS.out.mono (fun b _ h => h.imp (fun h => h) (fun h => (hlv b h).1))
        have FIN : Hid (Nw w w1 ∧ Lst w.heap.size Z w1 v' (ds ++ [r])) := hid ⟨Nw.grown (HNR.out.trans (Gr.alloc _ _).nw) hgrow (fun q hq => (hlv q hq).1), by
          exact Lst.app (m := [r]) (S' := fun _ => .slice sa r.vals.length sc) HN.out (Gr.alloc _ _).nw (fun j hj => by
            obtain rfl : j = 0 := by simpa using hj
            exact hvs.gr (Gr.alloc _ _)) hown hgrow hat'⟩
        clear hown hgrow hat hat' hlv hvs
        go_wp2
        go_roundw
        case rel => exact ⟨k + 1, by omega, by go_num, by rw [HE.out]; exact FIN⟩
        case measure => simp [intOf]; omega
    · have e : k = L.length := by omega
      subst e
      rw [List.take_length] at HR
      have hrecs : Recs Z wr u4 (dropL id L) := HR.out.2.recs (fun b _ h => Or.inl h) (fun b h1 _ h => by have := (H8.out b h).2; omega)
      obtain ⟨s1, s2⟩ := HG.out.store HR.out.1 hrecs
      have g2 : wr.frozen? ⟨q, 1, none⟩ = false := by rw [HR.out.1.frozen (a := ⟨q, 1, none⟩) hqw (fun h => h)]; exact g1
      have HS1 := hid s1
      have HS2 := hid s2
      obtain ⟨oa, oc, hov, _⟩ := HR.out.2.form
      clear hrecs s1 s2 HR HC
      subst hov
      go_wp2
      go_end0
      exact ⟨rfl, HS1.out, HS2.out⟩

end Go.Proofs.Ytkehhopdppampaa
