/-
  RefNote: the reference's model: note, drop.
-/
import Derived.Test.YtkehhopdppampaaRefM
namespace Go.Proofs.Ytkehhopdppampaa
set_option linter.unusedVariables false
set_option linter.unusedSimpArgs false
open Go.RowKit Go.Sort Go.Maps

def pnoteI (id : Int) (ids : List Int) : List Int := match pidx id ids with
  | none => ids ++ [id]
  | some _ => ids
def pnoteL (id v : Int) (ids lst : List Int) : List Int := match pidx id ids with
  | none => lst ++ [v]
  | some i => lst.set i v
/-- What a call leaves that may turn the blocks Z, and no others of what was there. -/
def Turned (Z : Nat → Prop) (w w' : World) (Z' : Nat → Prop) : Prop := Kp Z w w' ∧ ∀ b, Z' b → Z b ∨ w.heap.size ≤ b
theorem infoU64 : (Try.prog.info? 27).map (fun i => (i.zero, i.size, i.bytes)) = some (some (.int .u64 0), 1, 8) := by kernel_rfl
theorem uRow_set (l : List Int) (i : Nat) (v : Int) (h : i < l.length) : (uRow l).set i (.int .u64 v) = uRow (l.set i v) := by
  have e : ∀ (l : List Int) (k : Nat), rowsFrom (numC .u64) k l = l.map (Value.int .u64) := fun l => by
    induction l with
    | nil => intro k; rfl
    | cons x l ih => intro k; rw [rowsFrom, ih]; rfl
  unfold uRow
  rw [e, e, List.map_set]
theorem uRow_snoc (l : List Int) (x : Int) : uRow l ++ [.int .u64 x] = uRow (l ++ [x]) := by
  unfold uRow
  rw [rows_append]
  rfl
theorem srcU {w : World} {g : Nat} {x : Int} (h : w.cell? ⟨g, 0, none⟩ = some (.int .u64 x)) : SrcC 1 w (.slice (some ⟨g, 0, none⟩) 1 1) 1 [.int .u64 x] := by
  refine ⟨_, _, rfl, rfl, fun u hu => ?_, fun _ => ⟨_, _, rfl, fun j u hu => ?_⟩⟩
  · obtain rfl : u = .int .u64 x := by simpa using hu
    rfl
  · rcases j with _ | j
    · simp at hu
      rw [← hu]
      simpa using h
    · simp at hu
/-- Two new rows in the model's block. -/
theorem note_fin {B : Nat} {Z : Nat → Prop} {w Va W1 Vb W2 : World} {q : Nat} {attrs : Int} {L : List Rec} {ids lst : List Int} {id v : Int} {la ia ta : Option Addr} {lc ic tc : Nat} {v1 v2 : Value}
    (h1 : w.heap[q]? = some (.cells #[.int .i64 attrs, .slice la L.length lc, .slice ia ids.length ic, .slice ta lst.length tc] 64 (0, 0))) (h2 : Recs Z w (.slice la L.length lc) L) (h5 : Z q) (h6 : ∀ b, (Value.slice ia ids.length ic).ownBlock = some b → Z b ∧ b ≠ q)
    (h7 : ∀ b, (Value.slice ta lst.length tc).ownBlock = some b → Z b ∧ b ≠ q ∧ (Value.slice ia ids.length ic).ownBlock ≠ some b) (h8 : ∀ b, Z b → B ≤ b ∧ b < w.heap.size) (hB : B ≤ w.heap.size)
    (ha : Nw w Va) (hown1 : W1.ownsRow B 27 1 v1 (ids.length + 1) (uRow ids ++ [.int .u64 id])) (hg1 : Va.grownBy W1 (Value.slice ia ids.length ic).ownBlock) (hat1 : v1.ownBlock = (Value.slice ia ids.length ic).ownBlock ∨ v1.ownBlock = some Va.heap.size)
    (hb : Nw W1 Vb) (hown2 : W2.ownsRow B 27 1 v2 (lst.length + 1) (uRow lst ++ [.int .u64 v])) (hg2 : Vb.grownBy W2 (Value.slice ta lst.length tc).ownBlock) (hat2 : v2.ownBlock = (Value.slice ta lst.length tc).ownBlock ∨ v2.ownBlock = some Vb.heap.size) :
    ∃ Z', Turned Z w ((W2.setCell ⟨q, 2, none⟩ v1).setCell ⟨q, 3, none⟩ v2) Z' ∧ RM B Z' ((W2.setCell ⟨q, 2, none⟩ v1).setCell ⟨q, 3, none⟩ v2) q attrs L (ids ++ [id]) (lst ++ [v]) := by
  have l1 := World.ownsRow.lt hown1
  have l2 := World.ownsRow.lt hown2
  have k1 : Kp Z w W1 := (Nw.to ha).trans ((Kp.of_grownBy hg1).mono (fun b _ e => (h6 b e).1))
  have k2 : Kp Z w W2 := (k1.trans (Nw.to hb)).trans ((Kp.of_grownBy hg2).mono (fun b _ e => (h7 b e).1))
  have k3 : Kp Z w ((W2.setCell ⟨q, 2, none⟩ v1).setCell ⟨q, 3, none⟩ v2) := (k2.setCell (p := ⟨q, 2, none⟩) h5 _).setCell (p := ⟨q, 3, none⟩) h5 _
  have sa := ha.size
  have s1 := hg1.size
  have sb := hb.size
  have s2 := hg2.size
  have hqw : q < w.heap.size := (h8 q h5).2
  have o1 : ∀ b, v1.ownBlock = some b → Z b ∨ w.heap.size ≤ b := fun b e => by
    rcases hat1 with h | h
    · exact Or.inl (h6 b (by rw [← h]; exact e)).1
    · rw [h] at e; cases e; exact Or.inr sa
  have o2 : ∀ b, v2.ownBlock = some b → Z b ∨ w.heap.size ≤ b := fun b e => by
    rcases hat2 with h | h
    · exact Or.inl (h7 b (by rw [← h]; exact e)).1
    · rw [h] at e; cases e; exact Or.inr (by omega)
  have n1 : ∀ b, v1.ownBlock = some b → b ≠ q := fun b e => by
    rcases hat1 with h | h
    · exact (h6 b (by rw [← h]; exact e)).2
    · rw [h] at e; cases e; omega
  have n2 : ∀ b, v2.ownBlock = some b → b ≠ q := fun b e => by
    rcases hat2 with h | h
    · exact (h7 b (by rw [← h]; exact e)).2.1
    · rw [h] at e; cases e; omega
  have n12 : ∀ b, v2.ownBlock = some b → v1.ownBlock ≠ some b := fun b e e1 => by
    have hl1 := (l1 b e1).2
    rcases hat2 with h | h
    · have h7' := h7 b (by rw [← h]; exact e)
      rcases hat1 with g | g
      · exact h7'.2.2 (by rw [← g]; exact e1)
      · rw [g] at e1; cases e1
        have := (h8 _ h7'.1).2
        omega
    · rw [h] at e; cases e; omega
  have hgo : ∀ b, v1.ownBlock = some b → (Value.slice ta lst.length tc).ownBlock ≠ some b := fun b e1 e => by
    have h7' := h7 b e
    rcases hat1 with g | g
    · exact h7'.2.2 (by rw [← g]; exact e1)
    · rw [g] at e1; cases e1
      have := (h8 _ h7'.1).2
      omega
  have r1 : W2.ownsRow B 27 1 v1 (ids.length + 1) (uRow ids ++ [.int .u64 id]) := (own_nw hown1 hb).kept hg2 (by
    cases e : v1.ownBlock with
    | none => exact Or.inl rfl
    | some b => exact Or.inr (fun h => hgo b e h.symm))
  have kq : Kp (fun b => b = q) W2 ((W2.setCell ⟨q, 2, none⟩ v1).setCell ⟨q, 3, none⟩ v2) := ((Kp.refl (fun b => b = q) W2).setCell (p := ⟨q, 2, none⟩) rfl _).setCell (p := ⟨q, 3, none⟩) rfl _
  have hq2 : W2.heap[q]? = some (.cells #[.int .i64 attrs, .slice la L.length lc, .slice ia ids.length ic, .slice ta lst.length tc] 64 (0, 0)) := by
    have e1 := ha.heap h1 (fun h => h)
    have e2 := (Kp.of_grownBy hg1).heap e1 (fun e => (h6 q e).2 rfl)
    have e3 := hb.heap e2 (fun h => h)
    exact (Kp.of_grownBy hg2).heap e3 (fun e => (h7 q e).2.1 rfl)
  obtain ⟨a1, c1, rfl, _, _⟩ := own_cells (X := fun _ => False) r1 (fun _ _ h => h)
  obtain ⟨a2, c2, rfl, _, _⟩ := own_cells (X := fun _ => False) hown2 (fun _ _ h => h)
  rw [uRow_snoc] at r1 hown2
  refine ⟨fun b => Z b ∨ (Value.slice a1 (ids.length + 1) c1).ownBlock = some b ∨ (Value.slice a2 (lst.length + 1) c2).ownBlock = some b, ⟨k3, fun b hb => ?_⟩, la, lc, a1, c1, a2, c2, ?_, ?_, ?_, ?_, Or.inl h5, ?_, ?_, ?_⟩
  · rcases hb with h | h | h
    · exact Or.inl h
    · exact o1 b h
    · exact o2 b h
  · have e1 := heap_setCell_same W2 q 2 _ _ (.slice a1 (ids.length + 1) c1) hq2
    have e2 := heap_setCell_same _ q 3 _ _ (.slice a2 (lst.length + 1) c2) e1
    simpa using e2
  · refine ((h2.mono (Y := fun b => Z b ∨ w.heap.size ≤ b) (fun b hb e => e.elim (fun h => h) (fun h => by omega))).kp (k3.mono (fun b _ e => Or.inl e))).mono (fun b _ e => ?_)
    rcases e with h | h | h
    · exact Or.inl h
    · exact o1 b h
    · exact o2 b h
  · simpa using own_kp r1 kq (fun b hb => n1 b hb)
  · simpa using own_kp hown2 kq (fun b hb => n2 b hb)
  · intro b hb
    have hb : (Value.slice a1 (ids.length + 1) c1).ownBlock = some b := by simpa [Value.ownBlock] using hb
    exact ⟨Or.inr (Or.inl hb), n1 b hb⟩
  · intro b hb
    have hb : (Value.slice a2 (lst.length + 1) c2).ownBlock = some b := by simpa [Value.ownBlock] using hb
    refine ⟨Or.inr (Or.inr hb), n2 b hb, fun h => n12 b hb ?_⟩
    simpa [Value.ownBlock] using h
  · intro b hb
    have hsz := kq.size
    rcases hb with h | h | h
    · have := h8 b h; exact ⟨this.1, by omega⟩
    · have := l1 b h; exact ⟨this.1, by omega⟩
    · have := l2 b h; exact ⟨this.1, by omega⟩

theorem size_nw {B : Nat} {w w' : World} (h : B ≤ w.heap.size) (hk : Nw w w') : B ≤ w'.heap.size := Nat.le_trans h hk.size
theorem nw_arg {w V W : World} {row : Option Nat} (hg : V.grownBy W row) (h : Nw w V) : Nw w V := h
theorem kept_q {w V W : World} {row : Option Nat} {a : Addr} {u : Value} (h : Nw w V) (hg : V.grownBy W row) (hc : w.cell? a = some u) (hx : row ≠ some a.block) : W.cell? a = some u :=
  (Kp.of_grownBy hg).cell (h.cell hc (fun h => h)) (fun e => hx e)
theorem kept_f {w V W : World} {row : Option Nat} {a : Addr} (h : Nw w V) (hg : V.grownBy W row) (hf : w.frozen? a = false) (ha : a.block < w.heap.size) (hx : row ≠ some a.block) : W.frozen? a = false := by
  rw [(Kp.of_grownBy hg).frozen (Nat.lt_of_lt_of_le ha h.size) (fun e => hx e), h.frozen ha (fun h => h)]
  exact hf

set_option maxRecDepth 100000 in
set_option maxHeartbeats 4000000 in
theorem note_any (B : Nat) (Z : Nat → Prop) (q : Nat) (attrs : Int) (L : List Rec) (ids lst : List Int) (id v : Int) (w : World) (hG : RM B Z w q attrs L ids lst) (hB : B ≤ w.heap.size) (hlen : lst.length = ids.length) (hn : ids.length ≤ 1000000000) :
    Calls Try.prog 51 #[.pointer (some ⟨q, 0, none⟩), .int .u64 id, .int .u64 v] w fun e w' => e = .returned (.tuple #[]) ∧ ∃ Z', Turned Z w w' Z' ∧ RM B Z' w' q attrs L (pnoteI id ids) (pnoteL id v ids lst) := by
  have hm := mixed
  obtain ⟨i0, hi0, hz0, hz1, hz2⟩ := info_parts infoU64
  have hlast := last_any B Z q attrs L ids lst id w hG hlen hn
  obtain ⟨la, lc, ia, ic, ta, tc, h1, h2, h3, h4, h5, h6, h7, h8⟩ := hG
  have q2 : w.cell? ⟨q, 2, none⟩ = some (.slice ia ids.length ic) := by simp [World.cell?, h1]
  have q3 : w.cell? ⟨q, 3, none⟩ = some (.slice ta lst.length tc) := by simp [World.cell?, h1]
  have f2 : w.frozen? ⟨q, 2, none⟩ = false := by simp [World.frozen?, h1]
  have f3 : w.frozen? ⟨q, 3, none⟩ = false := by simp [World.frozen?, h1]
  have HLEN := hid hlen
  have H1 := hid h1
  have H2 := hid h2
  have H3 := hid h3
  have H4 := hid h4
  have H5 := hid h5
  have H6 := hid h6
  have H7 := hid h7
  have H8 := hid h8
  have hicl : ids.length ≤ ic := by obtain ⟨a', c', hv, hl, _⟩ := own_cells (X := fun _ => False) h3 (fun _ _ h => h); injection hv with _ _ e; omega
  have htcl : lst.length ≤ tc := by obtain ⟨a', c', hv, hl, _⟩ := own_cells (X := fun _ => False) h4 (fun _ _ h => h); injection hv with _ _ e; omega
  have hln : lst.length ≤ 1000000000 := by omega
  clear h1 h2 h3 h4 h5 h6 h7 h8 hlen
  cases hp : pidx id ids with
  | some i =>
    obtain ⟨hi1, _⟩ := pidx_lt hp
    have hl2 : plast id ids lst = (gx lst i, (i : Int)) := by unfold plast; rw [hp]
    have HNI : Hid (pnoteI id ids = ids) := hid (by unfold pnoteI; rw [hp])
    have HNL : Hid (pnoteL id v ids lst = lst.set i v) := hid (by unfold pnoteL; rw [hp])
    rw [hl2] at hlast
    have hi2 : i < lst.length := by have := HLEN.out; omega
    obtain ⟨g, rfl, hc⟩ := own_u H4.out (by omega)
    have c0 := hc i hi2
    have c1 : w.frozen? ⟨g, i, none⟩ = false := H4.out.frozenAt i
    clear hc hp hl2
    go_enter Try.func51, Try.ntmps51
    go_wp2_with (go_at_call 52; refine hlast.mono ?_; rintro e w' ⟨rfl, hw'⟩; subst w')
    go_end0
    have hg := H7.out g rfl
    have hst := (H4.out.stored i (.int .u64 v)).1
    rw [uRow_set lst i v hi2] at hst
    have hk : Kp (fun b => b = g) w (w.setCell ⟨g, i, none⟩ (.int .u64 v)) := (Kp.refl (fun b => b = g) w).setCell (p := ⟨g, i, none⟩) rfl _
    have hkZ : Kp Z w (w.setCell ⟨g, i, none⟩ (.int .u64 v)) := hk.mono (fun b _ e => by rw [e]; exact hg.1)
    refine ⟨rfl, Z, ⟨hkZ, fun b h => Or.inl h⟩, ?_⟩
    rw [HNI.out, HNL.out]
    refine ⟨la, lc, ia, ic, some ⟨g, 0, none⟩, tc, ?_, H2.out.kp hkZ, own_kp H3.out hk (fun b hb e => hg.2.2 (by rw [← e]; exact hb)), ?_, H5.out, H6.out, ?_, fun b hb => ⟨(H8.out b hb).1, Nat.lt_of_lt_of_le (H8.out b hb).2 hk.size⟩⟩
    · have := hk.heap H1.out (fun e => hg.2.1 e.symm)
      simpa using this
    · simpa using hst
    · simpa using H7.out
  | none =>
    have hl2 : plast id ids lst = (0, -1) := by unfold plast; rw [hp]
    have HNI : Hid (pnoteI id ids = ids ++ [id]) := hid (by unfold pnoteI; rw [hp])
    have HNL : Hid (pnoteL id v ids lst = lst ++ [v]) := hid (by unfold pnoteL; rw [hp])
    rw [hl2] at hlast
    clear hp hl2
    have HB := hid hB
    have hqw : q < w.heap.size := (H8.out q H5.out).2
    have hta1 : Hid ((Value.slice ta lst.length tc).ownBlock = none ∨ (Value.slice ta lst.length tc).ownBlock ≠ (Value.slice ia ids.length ic).ownBlock) := hid (by
      cases e : (Value.slice ta lst.length tc).ownBlock with
      | none => exact Or.inl rfl
      | some b => exact Or.inr (fun h => (H7.out b e).2.2 h.symm))
    go_enter Try.func51, Try.ntmps51
    go_wp2_with (go_at_call 52; refine hlast.mono ?_; rintro e w' ⟨rfl, hw'⟩; subst w')
    clear hlast
    have m0 := (Gr.alloc w (.cells #[.int .u64 id] 27)).cell q2
    have m1 := (Gr.alloc w (.cells #[.int .u64 v] 27)).cell q2
    have m2 := ((Gr.alloc w (.cells #[.int .u64 id] 27)).trans (Gr.alloc _ (.cells #[.int .u64 v] 27))).cell q2
    have m3 := ((Gr.alloc w (.cells #[.int .u64 v] 27)).trans (Gr.alloc _ (.cells #[.int .u64 id] 27))).cell q2
    have m4 := (Gr.alloc w (.cells #[.int .u64 id] 27)).cell q3
    have m5 := (Gr.alloc w (.cells #[.int .u64 v] 27)).cell q3
    have m6 := ((Gr.alloc w (.cells #[.int .u64 id] 27)).trans (Gr.alloc _ (.cells #[.int .u64 v] 27))).cell q3
    have m7 := ((Gr.alloc w (.cells #[.int .u64 v] 27)).trans (Gr.alloc _ (.cells #[.int .u64 id] 27))).cell q3
    go_region_law
      (first
        | ((refine step_app _ (by rfl) (.tmp 21) (.tmp 23) 38 (by rfl) B 27 i0 _ 1 8 Try.underlying38 hi0 hz0 hz1 hz2 rfl (by decide) (.slice ia ids.length ic) ids.length (uRow ids) (by rfl) (own_nw H3.out (by first | exact ((Gr.alloc w _).trans (Gr.drew _)).nw | exact (((Gr.alloc w _).trans (Gr.alloc _ _)).trans (Gr.drew _)).nw)) _ 1 [.int .u64 id] (by rfl) (srcU (by simp)) (by unfold maxLen; omega) (by omega) (size_nw HB.out (by first | exact ((Gr.alloc w _).trans (Gr.drew _)).nw | exact (((Gr.alloc w _).trans (Gr.alloc _ _)).trans (Gr.drew _)).nw)) ?_); intro v1 W1 hown1 hgrow1 hat1; have hVa := nw_arg (w := w) hgrow1 (by first | exact ((Gr.alloc w _).trans (Gr.drew _)).nw | exact (((Gr.alloc w _).trans (Gr.alloc _ _)).trans (Gr.drew _)).nw); have KV1 := hid (fun (a : Addr) (u : Value) => (Kp.of_grownBy hgrow1).cell (a := a) (v := u)); have T1 := hid ((own_nw H4.out hVa).kept hgrow1 (hta1.out)); have q21 := kept_q hVa hgrow1 q2 (fun e => (H6.out _ e).2 rfl); have q31 := kept_q hVa hgrow1 q3 (fun e => (H6.out _ e).2 rfl); have g21 := kept_f hVa hgrow1 f2 hqw (fun e => (H6.out _ e).2 rfl); have g31 := kept_f hVa hgrow1 f3 hqw (fun e => (H6.out _ e).2 rfl); have m8 := (Gr.alloc W1 (.cells #[.int .u64 v] 27)).cell q21; have m9 := (Gr.alloc W1 (.cells #[.int .u64 v] 27)).cell q31)
        | ((refine step_app _ (by rfl) (.tmp 28) (.tmp 30) 38 (by rfl) B 27 i0 _ 1 8 Try.underlying38 hi0 hz0 hz1 hz2 rfl (by decide) (.slice ta lst.length tc) lst.length (uRow lst) (by rfl) (own_nw T1.out (by first | exact Nw.refl _ | exact (Gr.alloc _ _).nw)) _ 1 [.int .u64 v] (by rfl) (by first | exact srcU (by simp) | exact srcU (KV1.out _ _ (by simp) (fun e => by have h := (H8.out _ (H6.out _ e).1).2; dsimp only at h; omega))) (by unfold maxLen; omega) (by omega) (size_nw (Nat.le_trans (Nat.le_trans HB.out hVa.size) hgrow1.size) (by first | exact Nw.refl _ | exact (Gr.alloc _ _).nw)) ?_); intro v2 W2 hown2 hgrow2 hat2; have hVb := nw_arg (w := W1) hgrow2 (by first | exact Nw.refl _ | exact (Gr.alloc _ _).nw); have FIN := hid (note_fin H1.out H2.out H5.out H6.out H7.out H8.out HB.out hVa hown1 hgrow1 hat1.out hVb hown2 hgrow2 hat2.out); have q22 := kept_q hVb hgrow2 q21 (fun e => (H7.out _ e).2.1 rfl); have q32 := kept_q hVb hgrow2 q31 (fun e => (H7.out _ e).2.1 rfl); have g22 := kept_f hVb hgrow2 g21 (Nat.lt_of_lt_of_le hqw (Nat.le_trans hVa.size hgrow1.size)) (fun e => (H7.out _ e).2.1 rfl); have g32 := kept_f hVb hgrow2 g31 (Nat.lt_of_lt_of_le hqw (Nat.le_trans hVa.size hgrow1.size)) (fun e => (H7.out _ e).2.1 rfl); obtain ⟨x1, y1, e1, _, _⟩ := own_cells (X := fun _ => False) hown1 (fun _ _ h => h); subst e1; obtain ⟨x2, y2, e2, _, _⟩ := own_cells (X := fun _ => False) hown2 (fun _ _ h => h); subst e2))
    all_goals
      go_end0
      exact ⟨rfl, by rw [HNI.out, HNL.out]; exact FIN.out⟩

end Go.Proofs.Ytkehhopdppampaa
