/-
  RefGet: the reference's model: Get, Find.
-/
import Derived.Test.YtkehhopdppampaaRefDrop
namespace Go.Proofs.Ytkehhopdppampaa
set_option linter.unusedVariables false
set_option linter.unusedSimpArgs false
open Go.RowKit Go.Sort Go.Maps

def rget (id : Int) (L : List Rec) : Rec := (rfind id L).getD zRec
theorem rfind_at {id : Int} {L : List Rec} {k : Nat} (hk : k < L.length) (h : ∀ j, j < k → (rx L j).id ≠ id) (he : (rx L k).id = id) : rfind id L = some (rx L k) := by
  have e : L = L.take k ++ (rx L k :: L.drop (k + 1)) := by rw [rx_get hk, ← List.drop_eq_getElem_cons hk, List.take_append_drop]
  unfold rfind
  rw [e, List.find?_append]
  have h1 : (L.take k).find? (fun r => decide (r.id = id)) = none := by
    rw [List.find?_eq_none]
    intro r hr
    obtain ⟨j, hj, rfl⟩ := List.getElem_of_mem hr
    simp only [List.length_take] at hj
    have := h j (by omega)
    rw [rx_get (by omega)] at this
    simpa using this
  rw [h1]
  have ex : rx (L.take k ++ rx L k :: L.drop (k + 1)) k = rx L k := by rw [← e]
  rw [ex, List.find?_cons]
  simp [he]
theorem rfind_no {id : Int} {L : List Rec} (h : ∀ j, j < L.length → (rx L j).id ≠ id) : rfind id L = none := by
  unfold rfind
  rw [List.find?_eq_none]
  intro r hr
  obtain ⟨j, hj, rfl⟩ := List.getElem_of_mem hr
  have := h j hj
  rw [rx_get hj] at this
  simpa using this

/-- What a Get leaves. -/
def GetR (w : World) (r : Rec) (b : Bool) (e : Ending) (w' : World) : Prop := ∃ s, e = .returned (.tuple #[.agg #[.int .u64 r.id, .int .u64 r.ver, s], .bool b]) ∧ Nw w w' ∧ ∀ Y, Fresh w.heap.size Y → Nums Y .u32 w' s r.vals

set_option maxRecDepth 100000 in
set_option maxHeartbeats 4000000 in
theorem refGet_any (B : Nat) (Z : Nat → Prop) (q : Nat) (attrs : Int) (L : List Rec) (ids lst : List Int) (id : Int) (w : World) (hG : RM B Z w q attrs L ids lst) (hn : L.length ≤ 1000000000) (hW : WfL L) :
    Calls Try.prog 33 #[.pointer (some ⟨q, 0, none⟩), .int .u64 id] w (GetR w (rget id L) (rfind id L).isSome) := by
  obtain ⟨la, lc, ia, ic, ta, tc, h1, h2, h3, h4, h5, h6, h7, h8⟩ := hG
  have q1 : w.cell? ⟨q, 1, none⟩ = some (.slice la L.length lc) := by simp [World.cell?, h1]
  obtain ⟨la', lc', hlv, hcl, hcc⟩ := h2
  injection hlv with e1 e2 e3
  subst e1 e3
  have HC := hid hcc
  clear hcc e2 h1 h3 h4 h5 h6 h7 h8
  go_enter Try.func33, Try.ntmps33
  go_wp2
  generalize hV : w.alloc (.cells #[.int .u64 0, .int .u64 0, .slice none 0 0] 30) = V
  have gV : Gr w V := by rw [← hV]; exact Gr.alloc _ _
  have z0 : V.cell? ⟨w.heap.size, 0, none⟩ = some (.int .u64 0) := by rw [← hV]; simp
  have z1 : V.cell? ⟨w.heap.size, 1, none⟩ = some (.int .u64 0) := by rw [← hV]; simp
  have z2 : V.cell? ⟨w.heap.size, 2, none⟩ = some (.slice none 0 0) := by rw [← hV]; simp
  have f0 : V.frozen? ⟨w.heap.size, 0, none⟩ = false := by rw [← hV]; simp
  have f1 : V.frozen? ⟨w.heap.size, 1, none⟩ = false := by rw [← hV]; simp
  have f2 : V.frozen? ⟨w.heap.size, 2, none⟩ = false := by rw [← hV]; simp
  have hz : V.heap.size = w.heap.size + 1 := by rw [← hV]; simp
  have qV := gV.cell q1
  have GV := hid gV
  clear hV gV q1
  go_loop [6] (fun i => ∃ k : Nat, k ≤ L.length ∧ i = .int .i64 k ∧ Hid (∀ j, j < k → (rx L j).id ≠ id)) (fun i => L.length - (intOf i).toNat)
  case atStart => exact ⟨0, by omega, by simp, hid (fun j hj => absurd hj (by omega))⟩
  case round =>
    obtain ⟨k, hk, rfl, HA⟩ := hrel
    by_cases hlt : k < L.length
    · obtain ⟨b, o, rfl, hx, hcell⟩ := HC.out (by omega)
      obtain ⟨s, c0, c1, c2, hs⟩ := hcell k hlt
      have e0 := GV.out.cell c0
      have e1 := GV.out.cell c1
      have e2 := GV.out.cell c2
      have hvl := (hW k hlt).2.2.2
      have hs' := hs.gr GV.out
      obtain ⟨sa, sc, rfl, hsl, hsc⟩ := hs
      have HS := hid hs'
      by_cases h1 : (rx L k).id = id
      · have hd : ((rx L k).id == id) = true := by simpa using h1
        have hf := rfind_at hlt HA.out h1
        have HF := hid (show rget id L = rx L k ∧ (rfind id L).isSome = true by unfold rget; rw [hf]; exact ⟨rfl, rfl⟩)
        clear hcell c0 c1 c2 hsc hs' h1 hf
        generalize rx L k = r at *
        go_wp2_with fail
        refine (copyRec_any Z _ r V ⟨_, rfl, HS.out⟩ hvl).mono ?_
        rintro e W3 ⟨v2, rfl, hnw, hrec⟩
        obtain ⟨s3, rfl, hs3⟩ := RecV.fresh hrec
        obtain ⟨s3a, s3c, rfl, _, _⟩ := hs3 (fun _ => False) (fun _ _ h => h)
        have y0 := hnw.cell z0 (fun h => h)
        have y1 := hnw.cell z1 (fun h => h)
        have y2 := hnw.cell z2 (fun h => h)
        have g0 : W3.frozen? ⟨w.heap.size, 0, none⟩ = false := (Kp.frozen hnw (a := ⟨w.heap.size, 0, none⟩) (by show w.heap.size < V.heap.size; omega) (fun h => h)).trans f0
        have g1 : W3.frozen? ⟨w.heap.size, 1, none⟩ = false := (Kp.frozen hnw (a := ⟨w.heap.size, 1, none⟩) (by show w.heap.size < V.heap.size; omega) (fun h => h)).trans f1
        have g2 : W3.frozen? ⟨w.heap.size, 2, none⟩ = false := (Kp.frozen hnw (a := ⟨w.heap.size, 2, none⟩) (by show w.heap.size < V.heap.size; omega) (fun h => h)).trans f2
        have HN3 := hid hnw
        have HS3 := hid hs3
        clear hnw hs3 hrec z0 z1 z2 f0 f1 f2
        obtain ⟨r0, r1, r2⟩ := set3_cells (.int .u64 r.id) (.int .u64 r.ver) (.slice s3a r.vals.length s3c) y0 y1 y2
        have hk5 : Nw w (((W3.setCell ⟨w.heap.size, 0, none⟩ (.int .u64 r.id)).setCell ⟨w.heap.size, 1, none⟩ (.int .u64 r.ver)).setCell ⟨w.heap.size, 2, none⟩ (.slice s3a r.vals.length s3c)) := Nw.setCell (Nw.setCell (Nw.setCell (GV.out.nw.trans HN3.out) (p := ⟨w.heap.size, 0, none⟩) (Nat.le_refl _) _) (p := ⟨w.heap.size, 1, none⟩) (Nat.le_refl _) _) (p := ⟨w.heap.size, 2, none⟩) (Nat.le_refl _) _
        have hk6 : Kp (fun b => b = w.heap.size) W3 (((W3.setCell ⟨w.heap.size, 0, none⟩ (.int .u64 r.id)).setCell ⟨w.heap.size, 1, none⟩ (.int .u64 r.ver)).setCell ⟨w.heap.size, 2, none⟩ (.slice s3a r.vals.length s3c)) := (((Kp.refl (fun b => b = w.heap.size) W3).setCell (p := ⟨w.heap.size, 0, none⟩) rfl (.int .u64 r.id)).setCell (p := ⟨w.heap.size, 1, none⟩) rfl (.int .u64 r.ver)).setCell (p := ⟨w.heap.size, 2, none⟩) rfl _
        have HS4 : Hid (∀ Y, Fresh w.heap.size Y → Nums Y .u32 (((W3.setCell ⟨w.heap.size, 0, none⟩ (.int .u64 r.id)).setCell ⟨w.heap.size, 1, none⟩ (.int .u64 r.ver)).setCell ⟨w.heap.size, 2, none⟩ (.slice s3a r.vals.length s3c)) (.slice s3a r.vals.length s3c) r.vals) := hid (fun Y hY => ((HS3.out (fun b => Y b ∨ b = w.heap.size) (fun b hb e => by
            rcases e with e | e
            · exact hY b (by omega) e
            · omega)).kp (hk6.mono (fun b _ e => Or.inr e))).mono (fun b _ e => Or.inl e))
        have HK5 := hid hk5
        clear hk5 hk6
        go_wp2_with fail
        generalize ((W3.setCell ⟨w.heap.size, 0, none⟩ (.int .u64 r.id)).setCell ⟨w.heap.size, 1, none⟩ (.int .u64 r.ver)).setCell ⟨w.heap.size, 2, none⟩ (.slice s3a r.vals.length s3c) = W4 at *
        refine bodyPost_ret (v := .tuple #[.agg #[.int .u64 r.id, .int .u64 r.ver, .slice s3a r.vals.length s3c], .bool true]) (by simp [results, Try.results33, go_sem, r0, r1, r2]) rfl ?_
        rw [HF.out.1, HF.out.2]
        exact ⟨_, rfl, HK5.out, HS4.out⟩
      · have hd : ((rx L k).id == id) = false := by simpa using h1
        have HE := hid h1
        clear hcell c0 c1 c2 hsc hs' h1
        go_wp2
        go_round
        case rel => exact ⟨k + 1, by omega, by go_num, hid (fun j hj => by
            by_cases e : j = k
            · rw [e]; exact HE.out
            · exact HA.out j (by omega))⟩
        case measure => simp [intOf]; omega
    · have hf := rfind_no (L := L) (id := id) (fun j hj => HA.out j (by omega))
      have HF := hid (show rget id L = zRec ∧ (rfind id L).isSome = false by unfold rget; rw [hf]; exact ⟨rfl, rfl⟩)
      clear HC hf
      obtain ⟨r0, r1, r2⟩ := set3_cells (.int .u64 0) (.int .u64 0) (.slice none 0 0) z0 z1 z2
      have hk5 : Nw w (((V.setCell ⟨w.heap.size, 0, none⟩ (.int .u64 0)).setCell ⟨w.heap.size, 1, none⟩ (.int .u64 0)).setCell ⟨w.heap.size, 2, none⟩ (.slice none 0 0)) := Nw.setCell (Nw.setCell (Nw.setCell GV.out.nw (p := ⟨w.heap.size, 0, none⟩) (Nat.le_refl _) _) (p := ⟨w.heap.size, 1, none⟩) (Nat.le_refl _) _) (p := ⟨w.heap.size, 2, none⟩) (Nat.le_refl _) _
      have HK5 := hid hk5
      clear hk5
      go_wp2_with fail
      refine bodyPost_ret (v := .tuple #[.agg #[.int .u64 0, .int .u64 0, .slice none 0 0], .bool false]) (by simp [results, Try.results33, go_sem, r0, r1, r2]) rfl ?_
      rw [HF.out.1, HF.out.2]
      exact ⟨_, rfl, HK5.out, fun Y hY => nums_nil _ _⟩

end Go.Proofs.Ytkehhopdppampaa
