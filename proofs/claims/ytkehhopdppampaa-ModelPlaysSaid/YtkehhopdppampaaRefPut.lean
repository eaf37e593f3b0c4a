/-
  RefPut: the reference's model: Put, Delete.
-/
import Derived.Test.YtkehhopdppampaaRefFind
import Derived.Deep.AppendLies
namespace Go.Proofs.Ytkehhopdppampaa
set_option linter.unusedVariables false
set_option linter.unusedSimpArgs false
open Go.RowKit Go.Sort Go.Maps

def rnew (id ver : Int) (ids lst : List Int) : Bool := match pidx id ids with
  | none => true
  | some i => decide (gx lst i < ver)
def rputOk (attrs : Int) (ids lst : List Int) (r : Rec) : Bool := rightB attrs r && rnew r.id r.ver ids lst
def rdelOk (L : List Rec) (id v : Int) : Bool := (rfind id L).isSome && decide ((rget id L).ver < v)
theorem Turned.trans {Z Z' Z'' : Nat → Prop} {a b c : World} (h : Turned Z a b Z') (k : Turned Z' b c Z'') : Turned Z a c Z'' :=
  ⟨⟨k.1.os.trans h.1.os, k.1.tape.trans h.1.tape, k.1.output.trans h.1.output, Nat.le_trans h.1.size k.1.size, fun i hi hx => (k.1.block i (Nat.lt_of_lt_of_le hi h.1.size) (fun hz => (h.2 i hz).elim hx (fun h => by omega))).trans (h.1.block i hi hx)⟩,
    fun b hb => (k.2 b hb).elim (fun h2 => h.2 b h2) (fun h2 => Or.inr (Nat.le_trans h.1.size h2))⟩
theorem Turned.nw {Z : Nat → Prop} {a b : World} (h : Nw a b) : Turned Z a b Z := ⟨Nw.to h, fun _ h => Or.inl h⟩
theorem newer_drop (r : Rec) (L : List Rec) : newer (dropL r.id L) r = true := by
  unfold newer
  have : rfind r.id (dropL r.id L) = none := by
    unfold rfind
    rw [List.find?_eq_none]
    intro x hx
    simpa [dropL] using (List.mem_filter.1 hx).2
  rw [this]

/-- What a Put, a Delete leaves. -/
def RPut (B : Nat) (Z : Nat → Prop) (w : World) (q : Nat) (attrs : Int) (ok : Bool) (L L' : List Rec) (ids lst ids' lst' : List Int) (e : Ending) (w' : World) : Prop :=
  e = .returned (.bool ok) ∧ ∃ Z', Turned Z w w' Z' ∧ RM B Z' w' q attrs (if ok then L' else L) (if ok then ids' else ids) (if ok then lst' else lst)

theorem put_ways (attrs : Int) (ids lst : List Int) (r : Rec) : (rightB attrs r = false ∧ rputOk attrs ids lst r = false) ∨ (rightB attrs r = true ∧ plast r.id ids lst = (0, -1) ∧ rputOk attrs ids lst r = true) ∨
    (∃ (lv : Int) (i : Nat), rightB attrs r = true ∧ plast r.id ids lst = (lv, (i : Int)) ∧ i < ids.length ∧ decide (r.ver ≤ lv) = false ∧ rputOk attrs ids lst r = true) ∨ (∃ (lv : Int) (i : Nat), rightB attrs r = true ∧ plast r.id ids lst = (lv, (i : Int)) ∧ i < ids.length ∧ decide (r.ver ≤ lv) = true ∧ rputOk attrs ids lst r = false) := by
  cases hr : rightB attrs r with
  | false => exact Or.inl ⟨rfl, by simp [rputOk, hr]⟩
  | true =>
    cases hp : pidx r.id ids with
    | none => exact Or.inr (Or.inl ⟨rfl, by simp [plast, hp], by simp [rputOk, hr, rnew, hp]⟩)
    | some i =>
      have hi := (pidx_lt hp).1
      by_cases hv : r.ver ≤ gx lst i
      · exact Or.inr (Or.inr (Or.inr ⟨gx lst i, i, rfl, by simp [plast, hp], hi, by simpa using hv, by simp [rputOk, hr, rnew, hp]; omega⟩))
      · exact Or.inr (Or.inr (Or.inl ⟨gx lst i, i, rfl, by simp [plast, hp], hi, by simpa using hv, by simp [rputOk, hr, rnew, hp]; omega⟩))

set_option maxRecDepth 100000 in
set_option maxHeartbeats 8000000 in
theorem refPut_any (B : Nat) (Z : Nat → Prop) (q : Nat) (attrs : Int) (L : List Rec) (ids lst : List Int) (v : Value) (r : Rec) (w : World) (hG : RM B Z w q attrs L ids lst) (hB : B ≤ w.heap.size) (hr : RecV Z w v r) (hn : L.length ≤ 100000000) (hs : Srt L) (hlen : lst.length = ids.length) (hin : ids.length ≤ 1000000000)
    (w0 : W64 r.id) (w1 : W64 r.ver) (hvl : r.vals.length ≤ 1000000000000) :
    Calls Try.prog 31 #[.pointer (some ⟨q, 0, none⟩), v] w (RPut B Z w q attrs (rputOk attrs ids lst r) L (rput r (dropL r.id L)) ids lst (pnoteI r.id ids) (pnoteL r.id r.ver ids lst)) := by
  have hm := mixed
  have HR := hid hr
  have HG := hid hG
  have hR := fun (W : World) (h : Gr w W) => refRight_any Z attrs v r W (hr.gr h) w0.1 w0.2 hvl
  have hlast := fun (W : World) (h : Nw w W) => last_any B Z q attrs L ids lst r.id W (hG.nw h) hlen hin
  have HB := hid hB
  have HS := hid hs
  have HLN := hid hlen
  obtain ⟨s, rfl, sa, sc, rfl, hsl, _⟩ := hr
  obtain ⟨la, lc, ia, ic, ta, tc, h1, h2, h3, h4, h5, h6, h7, h8⟩ := hG
  have q0 : w.cell? ⟨q, 0, none⟩ = some (.int .i64 attrs) := by simp [World.cell?, h1]
  have H8 := hid h8
  have H5 := hid h5
  have hdl : (dropL r.id L).length ≤ L.length := List.length_filter_le _ _
  have HND := hid (newer_drop r L)
  have hds : Srt (dropL r.id L) := hs.filter _
  have HDS := hid hds
  clear h1 h2 h3 h4 h5 h6 h7 h8 hs hlen hds
  have hway := put_ways attrs ids lst r
  generalize rputOk attrs ids lst r = ok at *
  rcases hway with ⟨hr0, hok⟩ | ⟨hr0, hpl, hok⟩ | ⟨lv, i, hr0, hpl, hi, hd, hok⟩ | ⟨lv, i, hr0, hpl, hi, hd, hok⟩
  · rw [hr0] at hR
    subst hok
    clear hr0
    generalize hpl : plast r.id ids lst = pl at *
    obtain ⟨lv, pi⟩ := pl
    clear hpl
    dsimp only at hlast
    have HRT := hid hR
    clear hR
    go_enter Try.func31, Try.ntmps31
    go_wp2_with fail
    generalize hW : w.alloc (Obj.cells #[.int .u64 r.id, .int .u64 r.ver, .slice sa r.vals.length sc] 30) = W
    have g0 : Gr w W := by rw [← hW]; exact Gr.alloc _ _
    have d0 : W.cell? ⟨w.heap.size, 0, none⟩ = some (.int .u64 r.id) := by rw [← hW]; simp
    have d1 : W.cell? ⟨w.heap.size, 1, none⟩ = some (.int .u64 r.ver) := by rw [← hW]; simp
    have d2 : W.cell? ⟨w.heap.size, 2, none⟩ = some (.slice sa r.vals.length sc) := by rw [← hW]; simp
    have hz : W.heap.size = w.heap.size + 1 := by rw [← hW]; simp
    have q1 := g0.cell q0
    have HG0 := hid g0
    have hl := hlast W g0.nw
    clear hW g0 hlast q0
    refine hl.mono ?_
    rintro e W' ⟨rfl, hW'⟩
    subst hW'
    clear hl
    go_wp2_with fail
    have f0 := cell_grown (World.block_lt_of_cell? _ _ q1) q1
    have f2 := cell_grown (World.block_lt_of_cell? _ _ d0) d0
    have f3 := cell_grown (World.block_lt_of_cell? _ _ d1) d1
    have f4 := cell_grown (World.block_lt_of_cell? _ _ d2) d2
    have hright : ∀ nq os, Calls Try.prog 53 #[.int .i64 attrs, .agg #[.int .u64 r.id, .int .u64 r.ver, .slice sa r.vals.length sc]] (grow (W'.drewN nq) os) fun e w' => e = .returned (.bool false) ∧ Gr (grow (W'.drewN nq) os) w' := fun nq os => HRT.out _ (HG0.out.trans (Gr.grow _ _ _))
    refine wp_region_quiet_grown (by assumption) (by kernel_rfl) ?_
    repeat (go_big_quiet_step (first | (go_at_call 53; refine Calls.gr_of (hright _ _))))
    refine wpQuiet_nil ?_
    intro _ hw'
    obtain ⟨⟨nq, osq⟩, hw''⟩ := hw'
    subst hw''
    have GV := hid (HG0.out.trans (Gr.grow W' nq osq))
    have e0 := (Gr.grow W' nq osq).cell d0
    have e1 := (Gr.grow W' nq osq).cell d1
    have e2 := (Gr.grow W' nq osq).cell d2
    have hzV : w.heap.size < (grow (W'.drewN nq) osq).heap.size := by have := (Gr.grow W' nq osq).size; omega
    clear f0 f2 f3 f4 hright q1 d0 d1 d2
    generalize grow (W'.drewN nq) osq = V at *
    go_wp2
    go_ret
    exact ⟨rfl, Z, Turned.nw GV.out.nw, HG.out.nw GV.out.nw⟩
  · rw [hr0] at hR
    subst hok
    clear hr0
    rw [hpl] at hlast
    clear hpl
    have HRT := hid hR
    clear hR
    go_enter Try.func31, Try.ntmps31
    go_wp2_with fail
    generalize hW : w.alloc (Obj.cells #[.int .u64 r.id, .int .u64 r.ver, .slice sa r.vals.length sc] 30) = W
    have g0 : Gr w W := by rw [← hW]; exact Gr.alloc _ _
    have d0 : W.cell? ⟨w.heap.size, 0, none⟩ = some (.int .u64 r.id) := by rw [← hW]; simp
    have d1 : W.cell? ⟨w.heap.size, 1, none⟩ = some (.int .u64 r.ver) := by rw [← hW]; simp
    have d2 : W.cell? ⟨w.heap.size, 2, none⟩ = some (.slice sa r.vals.length sc) := by rw [← hW]; simp
    have hz : W.heap.size = w.heap.size + 1 := by rw [← hW]; simp
    have q1 := g0.cell q0
    have HG0 := hid g0
    have hl := hlast W g0.nw
    clear hW g0 hlast q0
    refine hl.mono ?_
    rintro e W' ⟨rfl, hW'⟩
    subst hW'
    clear hl
    go_wp2_with fail
    have f0 := cell_grown (World.block_lt_of_cell? _ _ q1) q1
    have f2 := cell_grown (World.block_lt_of_cell? _ _ d0) d0
    have f3 := cell_grown (World.block_lt_of_cell? _ _ d1) d1
    have f4 := cell_grown (World.block_lt_of_cell? _ _ d2) d2
    have hright : ∀ nq os, Calls Try.prog 53 #[.int .i64 attrs, .agg #[.int .u64 r.id, .int .u64 r.ver, .slice sa r.vals.length sc]] (grow (W'.drewN nq) os) fun e w' => e = .returned (.bool true) ∧ Gr (grow (W'.drewN nq) os) w' := fun nq os => HRT.out _ (HG0.out.trans (Gr.grow _ _ _))
    refine wp_region_quiet_grown (by assumption) (by kernel_rfl) ?_
    repeat (go_big_quiet_step (first | (go_at_call 53; refine Calls.gr_of (hright _ _))))
    refine wpQuiet_nil ?_
    intro _ hw'
    obtain ⟨⟨nq, osq⟩, hw''⟩ := hw'
    subst hw''
    have GV := hid (HG0.out.trans (Gr.grow W' nq osq))
    have e0 := (Gr.grow W' nq osq).cell d0
    have e1 := (Gr.grow W' nq osq).cell d1
    have e2 := (Gr.grow W' nq osq).cell d2
    have hzV : w.heap.size < (grow (W'.drewN nq) osq).heap.size := by have := (Gr.grow W' nq osq).size; omega
    clear f0 f2 f3 f4 hright q1 d0 d1 d2
    generalize grow (W'.drewN nq) osq = V at *
    have hdrop := drop_any B Z q attrs L ids lst r.id V (HG.out.nw GV.out.nw) (by omega)
    go_wp2_with fail
    refine hdrop.mono ?_
    rintro e W1 ⟨rfl, ht1, hR1⟩
    clear hdrop
    have HT1 := hid ((Turned.nw GV.out.nw).trans ht1)
    have hnz : ¬ Z w.heap.size := fun h => by have := (H8.out _ h).2; omega
    have e0 := ht1.1.cell e0 hnz
    have e1 := ht1.1.cell e1 hnz
    have e2 := ht1.1.cell e2 hnz
    have HR1 := hid hR1
    have HRV := hid (HR.out.kp HT1.out.1)
    obtain ⟨la2, lc2, ia2, ic2, ta2, tc2, h1, h2, h3, h4, h5, h6, h7, h8⟩ := hR1
    have p1 : W1.cell? ⟨q, 1, none⟩ = some (.slice la2 (dropL r.id L).length lc2) := by simp [World.cell?, h1]
    have p2 : W1.frozen? ⟨q, 1, none⟩ = false := by simp [World.frozen?, h1]
    have hput : ∀ W', Nw W1 W' → Calls Try.prog 42 #[.slice la2 (dropL r.id L).length lc2, .agg #[.int .u64 r.id, .int .u64 r.ver, .slice sa r.vals.length sc]] W' (PutDone Z (dropL r.id L) r W') := fun W' h => put_any Z _ _ (dropL r.id L) r W' (h2.kp (Nw.to h)) (HRV.out.kp (Nw.to h)) (fun b hb hz => by have := (h8 b hz).2; have := h.size; omega) HDS.out (by omega) hvl
    have HPUT := hid hput
    have hqV : q < W1.heap.size := (h8 q h5).2
    clear h1 h2 h3 h4 h5 h6 h7 h8 ht1 hput
    go_wp2_with fail
    go_region_law (first
      | (go_simp; go_at_call 42; refine (HPUT.out _ (Gr.drew _).nw).mono ?_; rintro e W2 ⟨v2, rfl, hn2, hr2⟩; rw [HND.out, if_pos rfl] at hr2; have HR2 := hid hr2; have HN2 := hid ((Gr.drew W1).nw.trans hn2); obtain ⟨v2a, v2c, rfl, _, _⟩ := hr2; have p3 := ((Gr.drew W1).nw.trans hn2).cell p1 (fun h => h); have p4 : W2.frozen? ⟨q, 1, none⟩ = false := (Kp.frozen ((Gr.drew W1).nw.trans hn2) (a := ⟨q, 1, none⟩) hqV (fun h => h)).trans p2))
    all_goals
      obtain ⟨s1, s2⟩ := HR1.out.store HN2.out HR2.out
      have HT2 := hid (HT1.out.trans s1)
      have hnote := note_any B Z q attrs (rput r (dropL r.id L)) ids lst r.id r.ver _ s2 (Nat.le_trans HB.out HT2.out.1.size) HLN.out hin
      have z0 := s1.1.cell e0 hnz
      have z1 := s1.1.cell e1 hnz
      clear s1 s2 p3 p4 hn2
      go_wp2_with fail
      refine hnote.mono ?_
      rintro e W4 ⟨rfl, Z', ht4, hr4⟩
      have HT4 := hid (HT2.out.trans ht4)
      have HR4 := hid hr4
      clear ht4 hr4 hnote
      go_wp2
      go_ret
      exact ⟨rfl, Z', HT4.out, HR4.out⟩
  · rw [hr0] at hR
    subst hok
    clear hr0
    rw [hpl] at hlast
    clear hpl
    have HRT := hid hR
    clear hR
    go_enter Try.func31, Try.ntmps31
    go_wp2_with fail
    generalize hW : w.alloc (Obj.cells #[.int .u64 r.id, .int .u64 r.ver, .slice sa r.vals.length sc] 30) = W
    have g0 : Gr w W := by rw [← hW]; exact Gr.alloc _ _
    have d0 : W.cell? ⟨w.heap.size, 0, none⟩ = some (.int .u64 r.id) := by rw [← hW]; simp
    have d1 : W.cell? ⟨w.heap.size, 1, none⟩ = some (.int .u64 r.ver) := by rw [← hW]; simp
    have d2 : W.cell? ⟨w.heap.size, 2, none⟩ = some (.slice sa r.vals.length sc) := by rw [← hW]; simp
    have hz : W.heap.size = w.heap.size + 1 := by rw [← hW]; simp
    have q1 := g0.cell q0
    have HG0 := hid g0
    have hl := hlast W g0.nw
    clear hW g0 hlast q0
    refine hl.mono ?_
    rintro e W' ⟨rfl, hW'⟩
    subst hW'
    clear hl
    go_wp2_with fail
    have f0 := cell_grown (World.block_lt_of_cell? _ _ q1) q1
    have f2 := cell_grown (World.block_lt_of_cell? _ _ d0) d0
    have f3 := cell_grown (World.block_lt_of_cell? _ _ d1) d1
    have f4 := cell_grown (World.block_lt_of_cell? _ _ d2) d2
    have hright : ∀ nq os, Calls Try.prog 53 #[.int .i64 attrs, .agg #[.int .u64 r.id, .int .u64 r.ver, .slice sa r.vals.length sc]] (grow (W'.drewN nq) os) fun e w' => e = .returned (.bool true) ∧ Gr (grow (W'.drewN nq) os) w' := fun nq os => HRT.out _ (HG0.out.trans (Gr.grow _ _ _))
    refine wp_region_quiet_grown (by assumption) (by kernel_rfl) ?_
    repeat (go_big_quiet_step (first | (go_at_call 53; refine Calls.gr_of (hright _ _))))
    refine wpQuiet_nil ?_
    intro _ hw'
    obtain ⟨⟨nq, osq⟩, hw''⟩ := hw'
    subst hw''
    have GV := hid (HG0.out.trans (Gr.grow W' nq osq))
    have e0 := (Gr.grow W' nq osq).cell d0
    have e1 := (Gr.grow W' nq osq).cell d1
    have e2 := (Gr.grow W' nq osq).cell d2
    have hzV : w.heap.size < (grow (W'.drewN nq) osq).heap.size := by have := (Gr.grow W' nq osq).size; omega
    clear f0 f2 f3 f4 hright q1 d0 d1 d2
    generalize grow (W'.drewN nq) osq = V at *
    have hdrop := drop_any B Z q attrs L ids lst r.id V (HG.out.nw GV.out.nw) (by omega)
    go_wp2_with fail
    refine hdrop.mono ?_
    rintro e W1 ⟨rfl, ht1, hR1⟩
    clear hdrop
    have HT1 := hid ((Turned.nw GV.out.nw).trans ht1)
    have hnz : ¬ Z w.heap.size := fun h => by have := (H8.out _ h).2; omega
    have e0 := ht1.1.cell e0 hnz
    have e1 := ht1.1.cell e1 hnz
    have e2 := ht1.1.cell e2 hnz
    have HR1 := hid hR1
    have HRV := hid (HR.out.kp HT1.out.1)
    obtain ⟨la2, lc2, ia2, ic2, ta2, tc2, h1, h2, h3, h4, h5, h6, h7, h8⟩ := hR1
    have p1 : W1.cell? ⟨q, 1, none⟩ = some (.slice la2 (dropL r.id L).length lc2) := by simp [World.cell?, h1]
    have p2 : W1.frozen? ⟨q, 1, none⟩ = false := by simp [World.frozen?, h1]
    have hput : ∀ W', Nw W1 W' → Calls Try.prog 42 #[.slice la2 (dropL r.id L).length lc2, .agg #[.int .u64 r.id, .int .u64 r.ver, .slice sa r.vals.length sc]] W' (PutDone Z (dropL r.id L) r W') := fun W' h => put_any Z _ _ (dropL r.id L) r W' (h2.kp (Nw.to h)) (HRV.out.kp (Nw.to h)) (fun b hb hz => by have := (h8 b hz).2; have := h.size; omega) HDS.out (by omega) hvl
    have HPUT := hid hput
    have hqV : q < W1.heap.size := (h8 q h5).2
    clear h1 h2 h3 h4 h5 h6 h7 h8 ht1 hput
    go_wp2_with fail
    go_region_law (first
      | (go_simp; go_at_call 42; refine (HPUT.out _ (Gr.drew _).nw).mono ?_; rintro e W2 ⟨v2, rfl, hn2, hr2⟩; rw [HND.out, if_pos rfl] at hr2; have HR2 := hid hr2; have HN2 := hid ((Gr.drew W1).nw.trans hn2); obtain ⟨v2a, v2c, rfl, _, _⟩ := hr2; have p3 := ((Gr.drew W1).nw.trans hn2).cell p1 (fun h => h); have p4 : W2.frozen? ⟨q, 1, none⟩ = false := (Kp.frozen ((Gr.drew W1).nw.trans hn2) (a := ⟨q, 1, none⟩) hqV (fun h => h)).trans p2))
    all_goals
      obtain ⟨s1, s2⟩ := HR1.out.store HN2.out HR2.out
      have HT2 := hid (HT1.out.trans s1)
      have hnote := note_any B Z q attrs (rput r (dropL r.id L)) ids lst r.id r.ver _ s2 (Nat.le_trans HB.out HT2.out.1.size) HLN.out hin
      have z0 := s1.1.cell e0 hnz
      have z1 := s1.1.cell e1 hnz
      clear s1 s2 p3 p4 hn2
      go_wp2_with fail
      refine hnote.mono ?_
      rintro e W4 ⟨rfl, Z', ht4, hr4⟩
      have HT4 := hid (HT2.out.trans ht4)
      have HR4 := hid hr4
      clear ht4 hr4 hnote
      go_wp2
      go_ret
      exact ⟨rfl, Z', HT4.out, HR4.out⟩
  · rw [hr0] at hR
    subst hok
    clear hr0
    rw [hpl] at hlast
    clear hpl
    have HRT := hid hR
    clear hR
    go_enter Try.func31, Try.ntmps31
    go_wp2_with fail
    generalize hW : w.alloc (Obj.cells #[.int .u64 r.id, .int .u64 r.ver, .slice sa r.vals.length sc] 30) = W
    have g0 : Gr w W := by rw [← hW]; exact Gr.alloc _ _
    have d0 : W.cell? ⟨w.heap.size, 0, none⟩ = some (.int .u64 r.id) := by rw [← hW]; simp
    have d1 : W.cell? ⟨w.heap.size, 1, none⟩ = some (.int .u64 r.ver) := by rw [← hW]; simp
    have d2 : W.cell? ⟨w.heap.size, 2, none⟩ = some (.slice sa r.vals.length sc) := by rw [← hW]; simp
    have hz : W.heap.size = w.heap.size + 1 := by rw [← hW]; simp
    have q1 := g0.cell q0
    have HG0 := hid g0
    have hl := hlast W g0.nw
    clear hW g0 hlast q0
    refine hl.mono ?_
    rintro e W' ⟨rfl, hW'⟩
    subst hW'
    clear hl
    go_wp2_with fail
    have f0 := cell_grown (World.block_lt_of_cell? _ _ q1) q1
    have f2 := cell_grown (World.block_lt_of_cell? _ _ d0) d0
    have f3 := cell_grown (World.block_lt_of_cell? _ _ d1) d1
    have f4 := cell_grown (World.block_lt_of_cell? _ _ d2) d2
    have hright : ∀ nq os, Calls Try.prog 53 #[.int .i64 attrs, .agg #[.int .u64 r.id, .int .u64 r.ver, .slice sa r.vals.length sc]] (grow (W'.drewN nq) os) fun e w' => e = .returned (.bool true) ∧ Gr (grow (W'.drewN nq) os) w' := fun nq os => HRT.out _ (HG0.out.trans (Gr.grow _ _ _))
    refine wp_region_quiet_grown (by assumption) (by kernel_rfl) ?_
    repeat (go_big_quiet_step (first | (go_at_call 53; refine Calls.gr_of (hright _ _))))
    refine wpQuiet_nil ?_
    intro _ hw'
    obtain ⟨⟨nq, osq⟩, hw''⟩ := hw'
    subst hw''
    have GV := hid (HG0.out.trans (Gr.grow W' nq osq))
    have e0 := (Gr.grow W' nq osq).cell d0
    have e1 := (Gr.grow W' nq osq).cell d1
    have e2 := (Gr.grow W' nq osq).cell d2
    have hzV : w.heap.size < (grow (W'.drewN nq) osq).heap.size := by have := (Gr.grow W' nq osq).size; omega
    clear f0 f2 f3 f4 hright q1 d0 d1 d2
    generalize grow (W'.drewN nq) osq = V at *
    go_wp2
    go_ret
    exact ⟨rfl, Z, Turned.nw GV.out.nw, HG.out.nw GV.out.nw⟩

end Go.Proofs.Ytkehhopdppampaa
