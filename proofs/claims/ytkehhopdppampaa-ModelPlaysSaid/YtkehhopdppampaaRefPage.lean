/-
  RefPage: petasosref18.Gather.Page: plain part.
-/
import Derived.Test.YtkehhopdppampaaRefAdd
namespace Go.Proofs.Ytkehhopdppampaa
set_option linter.unusedVariables false
set_option linter.unusedSimpArgs false
open Go.RowKit Go.Sort Go.Maps

def past (after : Int) (first : Bool) (r : Rec) : Bool := first || !decide (r.id ≤ after)
theorem behind_filter (after : Int) (first : Bool) : ∀ {R : List Rec}, Srt R → behind after first R = R.filter (past after first)
  | R, hs => by
    cases first with
    | true => rw [behind_first]; exact (List.filter_eq_self.2 (fun r _ => by simp [past])).symm
    | false =>
      unfold behind
      simp only [Bool.false_eq_true, if_false]
      induction R with
      | nil => rfl
      | cons r R ih =>
        obtain ⟨h1, h2⟩ := List.pairwise_cons.1 hs
        by_cases h : r.id ≤ after
        · rw [List.dropWhile_cons, List.filter_cons]
          simp only [h, decide_true, if_true, past, Bool.false_or, Bool.not_true, Bool.false_eq_true, if_false]
          exact ih h2
        · rw [List.dropWhile_cons]
          simp only [h, decide_false, Bool.false_eq_true, if_false]
          exact (List.filter_eq_self.2 (fun y hy => by
            rcases List.mem_cons.1 hy with rfl | hy
            · simp [past, h]
            · have := h1 y hy
              simp [past]; omega)).symm

theorem filter_snoc (p : Rec → Bool) (l : List Rec) (k : Nat) (h : k < l.length) : (l.take (k + 1)).filter p = if p (rx l k) then (l.take k).filter p ++ [rx l k] else (l.take k).filter p := by
  rw [take_snocR l k h, List.filter_append]
  cases hp : p (rx l k) <;> simp [hp]
/-- Where the page is full and a record is left. -/
theorem page_full {p : Rec → Bool} {l : List Rec} {k : Nat} {n : Int} (h : k < l.length) (hp : p (rx l k) = true) (h1 : n ≤ ((l.take k).filter p).length) (h2 : (((l.take k).filter p).length : Int) ≤ max n 0) :
    (l.filter p).take (pageN n (l.filter p).length) = (l.take k).filter p ∧ moreB n (l.filter p).length = true := by
  have e : l.filter p = (l.take k).filter p ++ (rx l k :: (l.drop (k + 1)).filter p) := by
    have hR : l = l.take k ++ (rx l k :: l.drop (k + 1)) := by
      rw [rx_get h, ← List.drop_eq_getElem_cons h, List.take_append_drop]
    conv => lhs; rw [hR]
    rw [List.filter_append, List.filter_cons, hp]
    rfl
  have hl : (l.filter p).length = ((l.take k).filter p).length + (1 + ((l.drop (k + 1)).filter p).length) := by
    rw [e]; simp; omega
  have hpn : pageN n (l.filter p).length = ((l.take k).filter p).length := by rw [hl]; unfold pageN; omega
  refine ⟨?_, ?_⟩
  · rw [hpn]
    conv => lhs; rw [e]
    exact List.take_left' rfl
  · rw [moreB_iff, hpn, hl]; simp; omega
theorem page_end {l : List Rec} {n : Int} (h : (l.length : Int) ≤ max n 0) : l.take (pageN n l.length) = l ∧ moreB n l.length = false := by
  have hpn : pageN n l.length = l.length := by unfold pageN; omega
  exact ⟨by rw [hpn, List.take_length], by rw [moreB_iff, hpn]; simp⟩

set_option maxRecDepth 100000 in
set_option maxHeartbeats 2000000 in
theorem refPage_any (X : Nat → Prop) (q : Nat) (box : List Rng) (L : List Rec) (after n : Int) (first : Bool) (w : World) (hG : RefRep X w q box L) (hs : Srt L) (hW : WfL L) (hn : L.length ≤ 1000000000) :
    Calls Try.prog 21 #[.pointer (some ⟨q, 0, none⟩), .int .u64 after, .bool first, .int .i64 n] w fun e w' => ∃ v, e = .returned (.tuple #[v, .bool (moreB n (behind after first L).length)]) ∧ Nw w w' ∧
      FRecs w.heap.size w' v ((behind after first L).take (pageN n (behind after first L).length)) := by
  rw [behind_filter after first hs]
  obtain ⟨i0, hi0, hz0, hz1, hz2⟩ := info_parts infoRec
  obtain ⟨vb, vl, hb, hr, hl⟩ := hG
  have q1 : w.cell? ⟨q, 1, none⟩ = some vl := by simp [World.cell?, hb]
  obtain ⟨a, cap, rfl, hcl, hcc⟩ := hl
  have HC := hid hcc
  clear hcc hb hr
  go_enter Try.func21, Try.ntmps21
  go_wp2
  go_loopw [10, 11] (fun ov i wr => ∃ k : Nat, k ≤ L.length ∧ i = .int .i64 k ∧ Hid ((((L.take k).filter (past after first)).length : Int) ≤ max n 0) ∧ Hid (Nw w wr ∧ Built w.heap.size wr ov ((L.take k).filter (past after first)))) (fun _ i _ => L.length - (intOf i).toNat)
  case atStart => exact ⟨0, by omega, by simp, hid (by simp; omega), hid ⟨Nw.refl _, by simpa using Built.nil _ _⟩⟩
  case round =>
    obtain ⟨k, hk, rfl, HM, HR⟩ := hrel
    have q2 := HR.out.1.cell q1 (fun h => h)
    by_cases hlt : k < L.length
    · obtain ⟨b, o, rfl, hx, hcell⟩ := HC.out (by omega)
      obtain ⟨s, c0, c1, c2, hN⟩ := hcell k hlt
      have e0 := HR.out.1.cell c0 (fun h => h)
      have e1 := HR.out.1.cell c1 (fun h => h)
      have e2 := HR.out.1.cell c2 (fun h => h)
      have hf := hid (filter_snoc (past after first) L k hlt)
      have hvl := (hW k hlt).2.2.2
      have HFULL := hid (fun hp h1 => page_full (p := past after first) (n := n) hlt hp h1 HM.out)
      generalize hrk : rx L k = r at *
      generalize hfs : (L.take k).filter (past after first) = fs at *
      have HFS := hid hfs
      clear hcell c0 c1 c2 hrk hfs
      cases hp : past after first r with
      | false =>
        rw [hp] at hf
        have hf1 : first = false := by cases first <;> simp [past] at hp ⊢
        have hf2 : r.id ≤ after := by subst hf1; simpa [past] using hp
        subst hf1
        clear HFULL hp
        go_wp2
        go_roundw
        case rel => exact ⟨k + 1, by omega, by go_num, by rw [hf.out]; exact HM, by rw [hf.out]; exact HR⟩
        case measure => simp [intOf]; omega
      | true =>
        rw [hp] at hf
        have hcond : first = true ∨ (first = false ∧ ¬ r.id ≤ after) := by cases first <;> simp [past] at hp ⊢; omega
        obtain ⟨va, vc, hva, hvl2, _⟩ := HR.out.2.recs (Y := fun _ => False) (fun _ _ h => h)
        have HVA := hid hva
        by_cases hful : n ≤ (fs.length : Int)
        · have F := hid (HFULL.out hp hful)
          have HRR := hid HR.out.1
          have HRB := hid HR.out.2
          subst hva
          clear HFULL HR HM
          rcases hcond with rfl | ⟨rfl, hc2⟩
          all_goals
            clear hp
            go_wp2
            refine bodyPost_ret (v := .tuple #[.slice va fs.length vc, .bool true]) (by simp [results, Try.results21, go_sem]) rfl ⟨_, by rw [F.out.2], HRR.out, ?_⟩
            rw [F.out.1]
            exact fun Y hY => HRB.out.recs hY
        · subst hva
          obtain ⟨S, hown, hnums⟩ := HR.out.2
          have HO := hid hown
          have HNU := hid hnums
          have HNR := hid HR.out.1
          have HRV := hid (hN.kp (Nw.to HR.out.1))
          obtain ⟨ca, cc, rfl, hcl2, _⟩ := hN
          have hfl : fs.length ≤ L.length := by rw [← HFS.out]; exact Nat.le_trans (List.length_filter_le _ _) (by simp; omega)
          have hnx : ((fs.length + 1 : Nat) : Int) ≤ max n 0 := by omega
          clear hown hnums HR HFULL HM
          rcases hcond with rfl | ⟨rfl, hc2⟩
          all_goals
            clear hp
            go_wp2_with fail
            refine (copyRec_any (fun _ => False) _ r _ ⟨_, rfl, HRV.out.mono (fun _ _ h => h.elim)⟩ hvl).mono ?_
            rintro e W2 ⟨v2, rfl, hnw, hrec⟩
            obtain ⟨s2, rfl, hs2⟩ := RecV.fresh hrec
            have HS2 := hid hs2
            have HNW := hid hnw
            clear hrec hs2 hnw
            go_wp2_with (at_builtin; refine wpList_app rfl _ _ 23 rfl w.heap.size 30 i0 _ 3 40 Try.underlying23 hi0 hz0 hz1 hz2 rfl (by decide) _ fs.length (rowsFrom (recC S) 0 fs) rfl ?qo _ 1 [.int .u64 r.id, .int .u64 r.ver, s2] rfl ?qc1 ?qc2 ?qc3 ?qc4 ?_)
            case qo => exact Built.keptS HO.out (HNW.out.trans (Gr.alloc _ _).nw)
            case qc1 => exact src_one W2 #[.int .u64 r.id, .int .u64 r.ver, s2] 30 (one_cells (HS2.out (fun _ => False) (fun _ _ h => h)))
            case qc2 => unfold maxLen; omega
            case qc3 => omega
            case qc4 => have e1 := HNR.out.size; have e2 := HNW.out.size; simp; omega
            intro v' w1 hown hgrow hat
            have hat' := hat.out
            rw [← World.size_alloc W2 (.cells #[.int .u64 r.id, .int .u64 r.ver, s2] 30)] at hat'
            have hlv := World.ownsRow.lt HO.out
            have FIN : Hid (Nw w w1 ∧ Built w.heap.size w1 v' (fs ++ [r])) := hid ⟨Nw.grown ((HNR.out.trans HNW.out).trans (Gr.alloc _ _).nw) hgrow (fun q hq => (hlv q hq).1),
              Built.snoc (S := S) (s := s2) (fun j hj Y hY => Nums.appended (HNU.out j hj Y hY) (HNW.out.trans (Gr.alloc _ _).nw) hgrow hat')
                (fun Y hY => Nums.appended (HS2.out (fun b => Y b ∨ (Value.slice va fs.length vc).ownBlock = some b) (fun b hb h => h.elim (hY b (by have := HNR.out.size; omega)) (fun h => by have := (hlv b h).2; omega))) (Gr.alloc _ _).nw hgrow hat') hown⟩
            clear hown hgrow hat hat' hlv
            go_wp2
            go_roundw
            case rel => exact ⟨k + 1, by omega, by go_num, by rw [hf.out]; exact hid (by simpa using hnx), by rw [hf.out]; exact FIN⟩
            case measure => simp [intOf]; omega
    · have e : k = L.length := by omega
      subst e
      rw [List.take_length] at HR HM
      have E := hid (page_end HM.out)
      go_wp2
      refine bodyPost_ret (v := .tuple #[u10, .bool false]) (by simp [results, Try.results21, go_sem]) rfl ⟨u10, by rw [E.out.2], HR.out.1, ?_⟩
      rw [E.out.1]
      exact fun Y hY => HR.out.2.recs hY

end Go.Proofs.Ytkehhopdppampaa
